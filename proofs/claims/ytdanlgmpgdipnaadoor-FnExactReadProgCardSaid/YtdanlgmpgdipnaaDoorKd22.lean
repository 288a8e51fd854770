/- Several texts in one: RsTerm2, RsOk. -/
import Derived.Test.YtdanlgmpgdipnaaDoorKd21
import Derived.Test.YtdanlgmpgdipnaaDoorKd18
import Derived.Test.YtdanlgmpgdipnaaDoorKd20
namespace Go.Proofs.YtdanlgmpgdipnaaDoor
open Go.RowKit
set_option linter.unusedVariables false


theorem own_row {w0 w : World} {e : TypeId} {sz n c : Nat} {A : Option Addr} {xs : List Value} (h : Own w0 w e sz (.slice A n c) n xs) (hn : 0 < n) : ∃ g cur, A = some ⟨g, 0, none⟩ ∧ w0.heap.size ≤ g ∧ w.heap[g]? = some (.cells cur e (0, 0)) := by
  rcases h.1.2 with ⟨hv, h0⟩ | ⟨g, cap, cur, hv, hg, hh, _⟩
  · omega
  · injection hv with h1 _ _
    exact ⟨g, cur, h1, hg, hh⟩
theorem TmRowO.oneR {W : World} {F G : Nat → Prop} {row : Nat} {cur : Array Value} {e : TypeId} {t : Tm} {k m : Int} {s : ByteArray} {A : Option Addr} {l c : Nat} (hT : TmO W G [.int .i64 k, .int .i64 m, .string s, .slice A l c] t)
    (rd : Rd W 4 (some ⟨row, 0, none⟩) 1 [.int .i64 k, .int .i64 m, .string s, .slice A l c]) (hr : W.heap[row]? = some (.cells cur e (0, 0))) (hF : F row) (hGF : ∀ b, G b → F b) (hn : ¬ G row) : TmRowO W F (some ⟨row, 0, none⟩) [t] := by
  refine ⟨[.int .i64 k, .int .i64 m, .string s, .slice A l c], fun _ => G, ⟨rd, fun _ => ⟨row, 0, _, _, rfl, hF, hr, fun _ _ => hn⟩, fun _ b _ hb => hGF b hb, fun i j b hi hj hne _ _ => by simp at hi hj; omega⟩, fun i hi => ?_⟩
  have : i = 0 := by simp at hi; omega
  subst this
  exact hT
theorem rd_block {w w' : World} {sz n g : Nat} {cs : List Value} (rd : Rd w sz (some ⟨g, 0, none⟩) n cs) (h : w'.heap[g]? = w.heap[g]?) : Rd w' sz (some ⟨g, 0, none⟩) n cs := by
  refine ⟨rd.1, fun h0 => ?_⟩
  obtain ⟨b, o, e, hc⟩ := rd.2 h0
  injection e with e
  injection e with e1 e2
  subst e1 e2
  exact ⟨g, 0, rfl, fun j x hx => (World.cell?_of_block (a := ⟨g, 0 + j, none⟩) h).trans (hc j x hx)⟩
abbrev TsC (r : Nat) : Prop := ∀ (w : World) (rb : Nat) (A : Option Addr) (c n i : Nat) (L : List Sg) (lf : Int), SgsOk L → (∀ b o, A = some ⟨b, o, none⟩ → b < w.heap.size) → RsAt w rb A c n i L 0 0 lf →
  Calls Tryd.prog 46 #[.pointer (some ⟨rb, 0, none⟩), .int .i64 (r : Int)] w fun e w' => GsT w w' rb A c n L lf (rdT L n r i) e
set_option maxHeartbeats 12800000 in
set_option maxRecDepth 100000 in
theorem rs_term_not (r : Nat) (ih : TsC r) (room : Int) (g : Got Tm) (w : World) (rb : Nat) (A : Option Addr) (c n i : Nat) (L : List Sg) (lf : Int) (hs : SgsOk L) (hA : ∀ b o, A = some ⟨b, o, none⟩ → b < w.heap.size) (h : RsAt w rb A c n i L 0 0 lf) (hroom : room = (r : Int) + 1) (hr : r ≤ 5) (hk : ¬ (sgAt L i).k = 2) (hn : nmB L i = false) (hp : tx L i = ⟨#[40]⟩) (hq : tx L (i + 1) = ⟨#[110, 111, 116]⟩) (hg : g = innT L n (rdT L n r) (i + 1)) :
    Calls Tryd.prog 46 #[.pointer (some ⟨rb, 0, none⟩), .int .i64 room] w fun e w' => GsT w w' rb A c n L lf g e := by
  subst hg
  have IH := Lib.hid ih
  have HI := Lib.hid (innT_not (n := n) (rd := rdT L n r) hq)
  have hlt1 : i + 1 < L.length := there_of (by rw [hq]; decide)
  have hroom0 : (room == 0) = false := beq_eq_false_iff_ne.2 (by omega)
  have HQ : Hid (decide (tx L (i + 1) = ⟨#[110, 111, 116]⟩) = true) := Lib.hid (decide_eq_true hq)
  have HROOM := Lib.hid hroom
  clear ih hq hroom
  have RA := Lib.hid h
  have HA := Lib.hid hA
  have HS := Lib.hid hs
  have hL := h.hL
  have hcc := h.hc
  have hiL := h.hi
  have hrb := h.lt
  obtain ⟨_, _, _, p3, _, _⟩ := h.cs
  have HNM := Lib.hid hn
  have HP := Lib.hid hp
  have hlt : i < L.length := there_of (by rw [hp]; decide)
  have HKK : Hid (¬ L[i].k = 2) := Lib.hid (by rw [← sgAt_lt hlt]; exact hk)
  clear h hA hs hk hn hp
  go_enter Tryd.func46, Tryd.ntmps46
  go_wp2_with fail
  have BA : Below w.heap.size w ((w.alloc (.cells #[.int .i64 0, .int .i64 0, .string ByteArray.empty, .slice none 0 0] 65)).alloc (.cells #[.int .i64 0, .int .i64 0, .string ⟨#[]⟩, .slice none 0 0] 65)) := (by repeat' (first | exact Below.refl _ _ | exact Nat.le_refl _ | (refine Below.alloc ?_ ?_ _) | (refine Below.setCell ?_ ?_ _) | (refine Below.drew ?_) | (refine below_drewN ?_ _) | assumption | (simp; done) | (simp; omega)))
  refine (rs_named _ rb A c n i L 0 0 lf (RA.out.below BA) HS.out).mono ?_
  rintro e w1 ⟨rfl, b1⟩
  rw [show (decide ((0 : Int) = 0) && nmB L i) = false from by rw [HNM.out]; rfl]
  have B1 : Hid (Below w.heap.size w w1) := Lib.hid (BA.trans (b1.mono BA.size))
  have R1 := Lib.hid (RA.out.below B1.out)
  have HG0 : Hid (w1.heap[w.heap.size]? = some (.cells #[.int .i64 0, .int .i64 0, .string ByteArray.empty, .slice none 0 0] 65 (0, 0))) := Lib.hid ((b1.block _ (by simp; omega)).trans ((heap_alloc_lt (by simp)).trans (heap_alloc_new _ _)))
  have HTB : Hid (w1.heap[w.heap.size + 1]? = some (.cells #[.int .i64 0, .int .i64 0, .string ⟨#[]⟩, .slice none 0 0] 65 (0, 0))) := Lib.hid ((b1.block _ (by simp)).trans (by have := heap_alloc_new (w.alloc (.cells #[.int .i64 0, .int .i64 0, .string ByteArray.empty, .slice none 0 0] 65)) (.cells #[.int .i64 0, .int .i64 0, .string ⟨#[]⟩, .slice none 0 0] 65); simpa using this))
  have K1 : Hid (KeepR rb w w1) := Lib.hid (KeepR.of_below' B1.out)
  have hz1 := lt_of_block HTB.out
  have hrb1 := R1.out.lt
  obtain ⟨g0, hg0⟩ : ∃ g, w.heap.size = g := ⟨_, rfl⟩
  obtain ⟨tb, htb⟩ : ∃ g, w.heap.size + 1 = g := ⟨_, rfl⟩
  have HN0 : Hid (g0 ≠ rb) := Lib.hid (by omega)
  have HN1 : Hid (tb ≠ rb) := Lib.hid (by omega)
  have HA1 : Hid (∀ b o, A = some ⟨b, o, none⟩ → b ≠ g0) := Lib.hid (fun b o e => by have := HA.out b o e; omega)
  have HGG := Lib.hid hg0
  have hg0r : ¬ g0 = rb := HN0.out
  have hg0t : g0 < tb := by omega
  have htb1 : g0 + 1 = tb := by omega
  rw [hg0] at HG0 ⊢
  rw [htb] at HTB hz1
  rw [htb1]
  have hz0 := lt_of_block HG0.out
  clear b1 BA hg0 htb htb1 p3
  have hAI := HA.out
  obtain ⟨b, off, rfl, e0, e1, e2⟩ := rd_sg R1.out.rd hlt
  obtain ⟨x, hx⟩ : ∃ x, L[i] = x := ⟨_, rfl⟩
  have HX := Lib.hid hx
  rw [hx] at e0 e1
  obtain ⟨xk, xt, xp⟩ := x
  simp only at e0 e1
  have E0 := Lib.hid e0
  have E1 := Lib.hid e1
  have h0i : (0 : Int) ≤ (i : Int) := by omega
  have hdi : (i : Int) < (L.length : Int) := by omega
  clear hx e0 e1 e2
  have hxk : (xk == 2) = false := beq_eq_false_iff_ne.2 (by have := HKK.out; rw [HX.out] at this; exact this)
  go_upto_region 6 with fail
  refine wp_region_later (by kernel_rfl) (by kernel_rfl) ?_
  intro gw hgw hcw
  have HG := Lib.hid hgw
  have HC := Lib.hid hcw
  clear hgw hcw
  have P := Lib.hid (fun m => (R1.out.below (HG.out m)).cs)
  have p0 : ∀ m, (gw m).cell? ⟨rb, 0, none⟩ = some (.slice (some ⟨b, off, none⟩) L.length c) := fun m => (P.out m).1
  have p1 : ∀ m, (gw m).cell? ⟨rb, 1, none⟩ = some (.int .i64 (i : Int)) := fun m => (P.out m).2.1
  have s0 : ∀ m, (gw m).cell? ⟨b, off + i * 3, none⟩ = some (.int .i64 xk) := fun m => cell_keep (HG.out m) E0.out
  have s1 : ∀ m, (gw m).cell? ⟨b, off + i * 3 + 1, none⟩ = some (.string xt) := fun m => cell_keep (HG.out m) E1.out
  repeat (go_big_quiet_step (fail))
  refine wpQuiet_nil ?_
  intro _ hw'
  obtain ⟨nq, hw''⟩ := hw'
  subst hw''
  rename Later _ => mm
  have R2 := Lib.hid (R1.out.below (HG.out mm))
  have K2 := Lib.hid (K1.out.trans' (KeepR.of_below' (HG.out mm)))
  have G2 : Hid ((gw mm).heap[g0]? = some (.cells #[.int .i64 0, .int .i64 0, .string ByteArray.empty, .slice none 0 0] 65 (0, 0))) := Lib.hid (((HG.out mm).block g0 (lt_of_block HG0.out)).trans HG0.out)
  have T2 : Hid ((gw mm).heap[tb]? = some (.cells #[.int .i64 0, .int .i64 0, .string ⟨#[]⟩, .slice none 0 0] 65 (0, 0))) := Lib.hid (((HG.out mm).block tb (lt_of_block HTB.out)).trans HTB.out)
  have E20 : Hid ((gw mm).cell? ⟨b, off + i * 3, none⟩ = some (.int .i64 xk)) := Lib.hid (cell_keep (HG.out mm) E0.out)
  have E21 : Hid ((gw mm).cell? ⟨b, off + i * 3 + 1, none⟩ = some (.string xt)) := Lib.hid (cell_keep (HG.out mm) E1.out)
  clear p0 p1 s0 s1 P
  generalize gw mm = w2 at *
  go_wp2_with fail
  refine (rs_is ⟨#[40]⟩ _ rb _ c n i L 0 0 lf R2.out (by decide)).mono ?_
  rintro e w3 ⟨rfl, b3⟩
  rw [show (decide ((0 : Int) = 0) && decide (tx L i = ⟨#[40]⟩)) = true from by rw [decide_eq_true HP.out]; rfl]
  have R3 := Lib.hid (R2.out.below b3)
  have K3 := Lib.hid (K2.out.trans' (KeepR.of_below' b3))
  have G3 : Hid (w3.heap[g0]? = some (.cells #[.int .i64 0, .int .i64 0, .string ByteArray.empty, .slice none 0 0] 65 (0, 0))) := Lib.hid ((b3.block g0 (lt_of_block G2.out)).trans G2.out)
  have T3 : Hid (w3.heap[tb]? = some (.cells #[.int .i64 0, .int .i64 0, .string ⟨#[]⟩, .slice none 0 0] 65 (0, 0))) := Lib.hid ((b3.block tb (lt_of_block T2.out)).trans T2.out)
  clear b3
  obtain ⟨j, hj⟩ : ∃ j, i + 1 = j := ⟨_, rfl⟩
  have HJ := Lib.hid hj
  rw [hj] at HQ HI
  have hlt1' : j < L.length := by omega
  have hj6 : j ≤ 6000 := by omega
  go_wp2_with fail
  refine (rs_take ⟨#[40]⟩ _ rb _ c n i L 0 lf R3.out (by decide)).mono ?_
  rintro e w4 ⟨rfl, k4, hret⟩
  rcases hret with ⟨_, r4⟩ | ⟨hno, _⟩
  case inr => exact absurd HP.out hno
  rw [hj] at r4
  have R4 := Lib.hid r4
  have K4 := Lib.hid (K3.out.trans' (k4))
  have G4 : Hid (w4.heap[g0]? = some (.cells #[.int .i64 0, .int .i64 0, .string ByteArray.empty, .slice none 0 0] 65 (0, 0))) := Lib.hid ((k4.block g0 (lt_of_block G3.out) hg0r).trans G3.out)
  have T4 : Hid (w4.heap[tb]? = some (.cells #[.int .i64 0, .int .i64 0, .string ⟨#[]⟩, .slice none 0 0] 65 (0, 0))) := Lib.hid ((k4.block tb (lt_of_block T3.out) HN1.out).trans T3.out)
  clear r4 k4 hj
  go_wp2_with fail
  refine (rs_is ⟨#[110, 111, 116]⟩ _ rb _ c n j L 0 0 lf R4.out (by decide)).mono ?_
  rintro e w5 ⟨rfl, b5⟩
  rw [show (decide ((0 : Int) = 0) && decide (tx L j = ⟨#[110, 111, 116]⟩)) = true from by rw [HQ.out]; rfl]
  have R5 := Lib.hid (R4.out.below b5)
  have K5 := Lib.hid (K4.out.trans' (KeepR.of_below' b5))
  have G5 : Hid (w5.heap[g0]? = some (.cells #[.int .i64 0, .int .i64 0, .string ByteArray.empty, .slice none 0 0] 65 (0, 0))) := Lib.hid ((b5.block g0 (lt_of_block G4.out)).trans G4.out)
  have T5 : Hid (w5.heap[tb]? = some (.cells #[.int .i64 0, .int .i64 0, .string ⟨#[]⟩, .slice none 0 0] 65 (0, 0))) := Lib.hid ((b5.block tb (lt_of_block T4.out)).trans T4.out)
  clear b5
  have T6 : Hid (((w5.setCell ⟨rb, 1, none⟩ (.int .i64 ((j : Int) + 1))).setCell ⟨tb, 0, none⟩ (.int .i64 8)).heap[tb]? = some (.cells #[.int .i64 8, .int .i64 0, .string ⟨#[]⟩, .slice none 0 0] 65 (0, 0))) := Lib.hid (by
    have h1 := (Below.heap_setCell w5 ⟨rb, 1, none⟩ (.int .i64 ((j : Int) + 1)) tb (HN1.out)).trans T5.out
    generalize w5.setCell ⟨rb, 1, none⟩ (.int .i64 ((j : Int) + 1)) = ww at *
    simp [World.setCell, Array.getElem?_modify, h1])
  have G6 : Hid (((w5.setCell ⟨rb, 1, none⟩ (.int .i64 ((j : Int) + 1))).setCell ⟨tb, 0, none⟩ (.int .i64 8)).heap[g0]? = some (.cells #[.int .i64 0, .int .i64 0, .string ByteArray.empty, .slice none 0 0] 65 (0, 0))) := Lib.hid ((Below.heap_setCell _ ⟨tb, 0, none⟩ _ g0 (by show g0 ≠ tb; omega)).trans ((Below.heap_setCell w5 ⟨rb, 1, none⟩ _ g0 hg0r).trans G5.out))
  have R6 : Hid (RsAt ((w5.setCell ⟨rb, 1, none⟩ (.int .i64 ((j : Int) + 1))).setCell ⟨tb, 0, none⟩ (.int .i64 8)) rb (some ⟨b, off, none⟩) c n (j + 1) L 0 0 lf) := Lib.hid ((R5.out.seti (by omega)).setg HN1.out (fun b' o' e => by have := hAI b' o' e; have := HGG.out; omega) _ _)
  have K6 : Hid (KeepR rb w ((w5.setCell ⟨rb, 1, none⟩ (.int .i64 ((j : Int) + 1))).setCell ⟨tb, 0, none⟩ (.int .i64 8))) := Lib.hid (set_keep1 (K5.out.setCell (p := ⟨rb, 1, none⟩) (by simp) _) (by have := HGG.out; omega) _ _)
  obtain ⟨_, q1, _⟩ := R5.out.cs
  have gq1 := R5.out.fz 1
  have hrb5 := R5.out.lt
  obtain ⟨x0, _, _, _⟩ := term_cells T5.out
  have xf0 := Lib.frozen_of_heap T5.out 0
  have hz5 := lt_of_block T5.out
  have htr : ¬ tb = rb := HN1.out
  have htr2 : ¬ rb = tb := fun e => HN1.out e.symm
  go_upto_region 17 with fail
  obtain ⟨w6, hw6⟩ : ∃ w6, (w5.setCell ⟨rb, 1, none⟩ (.int .i64 ((j : Int) + 1))).setCell ⟨tb, 0, none⟩ (.int .i64 8) = w6 := ⟨_, rfl⟩
  rw [hw6] at T6 G6 R6 K6 ⊢
  clear hw6 q1 gq1 x0 xf0
  obtain ⟨x0, x1, x2, x3⟩ := term_cells T6.out
  have xf := Lib.frozen_of_heap T6.out 3
  have hz6 := lt_of_block T6.out
  have hrb6 := R6.out.lt
  have hwr : IntKind.i64.wrap (room - 1) = (r : Int) := by rw [HROOM.out, Int.add_sub_cancel]; exact IntWalk.i64_in _ (by omega)
  have TT := T6
  have HAB : Hid (∀ b' o', (some ⟨b, off, none⟩ : Option Addr) = some ⟨b', o', none⟩ → b' < w6.drew.heap.size) := Lib.hid (fun b' o' e => by have h1 := hAI b' o' e; have h2 := HGG.out; show b' < w6.heap.size; omega)
  have hg6 := lt_of_block G6.out
  have hw66 := K6.out.size
  go_region_law (first
    | (go_simp; go_at_call 46; have hcl := IH.out w6.drew rb _ c n (j + 1) L lf HS.out HAB.out (R6.out.below (Below.refl _ _).drew); refine hcl.mono ?_; clear hcl; rintro e wY ⟨kY', tk, tm, ts, tA, tl, tc, rfl, hres⟩; have HRES := Lib.hid hres; have kY : KeepR rb w6 wY := KeepR.trans' (KeepR.of_below' (by repeat' (first | exact Below.refl _ _ | exact Nat.le_refl _ | (refine Below.alloc ?_ ?_ _) | (refine Below.setCell ?_ ?_ _) | (refine Below.drew ?_) | (refine below_drewN ?_ _) | assumption | (simp; done) | (simp; omega)))) kY'; have KY := Lib.hid kY; have TY := Lib.hid ((kY.block tb hz6 HN1.out).trans TT.out); obtain ⟨z0, z1, z2, z3⟩ := term_cells TY.out; have zf := Lib.frozen_of_heap TY.out 3; have hzY := lt_of_block TY.out; clear kY kY' hres)
    | (refine step_kid (by rfl) _ _ (by rfl) (by rfl) (Own.start _ _ _) _ 1 1 [.int .i64 tk, .int .i64 tm, .string ts, .slice tA tl tc] (by rfl) (by first | exact Rd.new _ 4 1 _ _ rfl | exact (Rd.new _ 4 1 _ _ rfl).drew) (by simp [Value.oneCell']) (by omega) ?_; intro v' wZ own' gr'; have bW : Below wY.heap.size wY wZ := Below.trans (Below.alloc (Below.refl _ _) (Nat.le_refl _) _) (own'.2.mono (by simp)); have TZ := Lib.hid ((bW.block tb hzY).trans TY.out); obtain ⟨t0, t1, t2, t3⟩ := term_cells TZ.out; have tf := Lib.frozen_of_heap TZ.out 3; have hzZ := lt_of_block TZ.out; obtain ⟨vA, vc, rfl, hvc⟩ := own'.slice; have hrow := own_row own' (by omega); have hrdo := Own.rd own'; have hcap := own_cap' own'; have BZ := Lib.hid bW; have HVC := Lib.hid hvc; have HROW := Lib.hid hrow; have HRDO := Lib.hid hrdo; have HCAP := Lib.hid hcap; have hsr : wY.heap.size < (wY.alloc (.cells #[.int .i64 tk, .int .i64 tm, .string ts, .slice tA tl tc] 65)).heap.size := (by simp); have HSR := Lib.hid hsr; clear own' gr' hvc hrow hrdo hcap hsr))
  all_goals
    obtain ⟨wq, hwq⟩ : ∃ wq, wZ.setCell ⟨tb, 3, none⟩ (.slice vA 1 vc) = wq := ⟨_, rfl⟩
    obtain ⟨row, cur, rfl, hrow1, hrow2⟩ := HROW.out
    have hgt : tb < wY.heap.size := lt_of_block TY.out
    have hsr := HSR.out
    have hrt : row ≠ tb := by omega
    have hyz := BZ.out.size
    have h6y := KY.out.size
    have Kq : Hid (KeepR rb w wq) := Lib.hid (by rw [← hwq]; exact set_keep1 ((K6.out.trans' KY.out).trans' (KeepR.of_below' BZ.out)) (by have := HGG.out; omega) _ _)
    have GY : Hid (wY.heap[g0]? = some (.cells #[.int .i64 0, .int .i64 0, .string ByteArray.empty, .slice none 0 0] 65 (0, 0))) := Lib.hid ((KY.out.block g0 hg6 hg0r).trans G6.out)
    have Gq : Hid (wq.heap[g0]? = some (.cells #[.int .i64 0, .int .i64 0, .string ByteArray.empty, .slice none 0 0] 65 (0, 0))) := Lib.hid (by rw [← hwq]; exact (Below.heap_setCell wZ ⟨tb, 3, none⟩ _ g0 (by show g0 ≠ tb; omega)).trans ((BZ.out.block g0 (lt_of_block GY.out)).trans GY.out))
    have Tq : Hid (wq.heap[tb]? = some (.cells #[.int .i64 8, .int .i64 0, .string ⟨#[]⟩, .slice (some ⟨row, 0, none⟩) 1 vc] 65 (0, 0))) := Lib.hid (by rw [← hwq]; have := TZ.out; simp [World.setCell, Array.getElem?_modify, this])
    have SQ : Hid (∀ bb, bb < wY.heap.size → bb ≠ tb → wq.heap[bb]? = wY.heap[bb]?) := Lib.hid (fun bb h1 h2 => by rw [← hwq]; exact (Below.heap_setCell wZ ⟨tb, 3, none⟩ _ bb h2).trans (BZ.out.block bb h1))
    have HRE : wq.heap[row]? = wZ.heap[row]? := by rw [← hwq]; exact Below.heap_setCell wZ ⟨tb, 3, none⟩ _ row hrt
    have HR1 : Hid (wq.heap[row]? = some (.cells cur 65 (0, 0))) := Lib.hid (HRE.trans hrow2)
    have HR2 : Hid (Rd wq 4 (some ⟨row, 0, none⟩) 1 [.int .i64 tk, .int .i64 tm, .string ts, .slice tA tl tc]) := Lib.hid (rd_block HRDO.out HRE)
    have hqs : wq.heap.size = wZ.heap.size := by rw [← hwq]; simp
    have SZ : Hid (g0 < w6.heap.size ∧ rb < w6.heap.size ∧ tb < w6.heap.size ∧ w6.heap.size ≤ wY.heap.size ∧ wY.heap.size ≤ row ∧ wY.heap.size ≤ wq.heap.size) := Lib.hid ⟨hg6, hrb6, hz6, h6y, by omega, by omega⟩
    have RSQ : Hid (∀ (q : Nat) (fc : Int) (fp : Nat), RsAt wY rb (some ⟨b, off, none⟩) c n q L fc fp lf → RsAt wq rb (some ⟨b, off, none⟩) c n q L fc fp lf) := Lib.hid (fun q fc fp hh => by rw [← hwq]; exact (hh.below BZ.out).setg HN1.out (fun b' o' e => by have := hAI b' o' e; have := HGG.out; omega) _ _)
    rw [hwq]
    clear hwq x0 x1 x2 x3 z0 z1 z2 z3 zf t0 t1 t2 t3 tf xf HRE hrow2
    cases hgg : rdT L n r (j + 1) with
    | bad fc fp =>
      rw [hgg] at HRES
      obtain ⟨hfc, q, rq0⟩ := HRES.out
      have Rq := Lib.hid (RSQ.out _ _ _ rq0)
      have HFC := Lib.hid hfc
      have HG2 : Hid (innT L n (rdT L n r) (i + 1) = .bad fc fp) := Lib.hid (by rw [HJ.out, HI.out, hgg])
      clear rq0 hfc hgg
      go_wp2_with fail
      refine (rs_take2 ⟨#[41]⟩ _ rb _ c n q L fc fp lf Rq.out (by decide) HFC.out).mono ?_
      rintro e wr ⟨rfl, br⟩
      have Rr := Lib.hid (Rq.out.below br)
      have Tr : Hid (wr.heap[tb]? = some (.cells #[.int .i64 8, .int .i64 0, .string ⟨#[]⟩, .slice (some ⟨row, 0, none⟩) 1 vc] 65 (0, 0))) := Lib.hid ((br.block tb (lt_of_block Tq.out)).trans Tq.out)
      have Gr : Hid (wr.heap[g0]? = some (.cells #[.int .i64 0, .int .i64 0, .string ByteArray.empty, .slice none 0 0] 65 (0, 0))) := Lib.hid ((br.block g0 (lt_of_block Gq.out)).trans Gq.out)
      have KR : Hid (KeepR rb wq wr) := Lib.hid (KeepR.of_below' br)
      have Kr := Lib.hid (Kq.out.trans' KR.out)
      obtain ⟨x0, x1, x2, x3⟩ := term_cells Tr.out
      have hzr := lt_of_block Tr.out
      clear br
      obtain ⟨v0, v1, v2, v3⟩ := term_cells Gr.out
      have f0 := Lib.frozen_of_heap Gr.out 0
      have f1 := Lib.frozen_of_heap Gr.out 1
      have f2 := Lib.frozen_of_heap Gr.out 2
      have f3 := Lib.frozen_of_heap Gr.out 3
      have hz := lt_of_block Gr.out
      go_wp2_with fail
      obtain ⟨W, hWW⟩ : ∃ W, ((((wr.setCell ⟨g0, 0, none⟩ (.int .i64 8)).setCell ⟨g0, 1, none⟩ (.int .i64 0)).setCell ⟨g0, 2, none⟩ (.string ⟨#[]⟩)).setCell ⟨g0, 3, none⟩ (.slice (some ⟨row, 0, none⟩) 1 vc)) = W := ⟨_, rfl⟩
      have hWg : W.heap[g0]? = some (.cells #[.int .i64 8, .int .i64 0, .string ⟨#[]⟩, .slice (some ⟨row, 0, none⟩) 1 vc] 65 (0, 0)) := by
        rw [← hWW]
        exact term_set Gr.out _ _ _ _
      have RW : RsAt W rb (some ⟨b, off, none⟩) c n q L fc fp lf := by
        rw [← hWW]
        exact (Rr.out).set4 HN0.out HA1.out _ _ _ _
      have KW : KeepR rb w W := by
        rw [← hWW]
        exact set_keep4 (Kr.out) (by rw [HGG.out]; exact Nat.le_refl _) _ _ _ _
      obtain ⟨y0, y1, y2, y3⟩ := term_cells hWg
      rw [hWW]
      clear hWg hWW
      refine bodyPost_ret (v := .agg #[.int .i64 8, .int .i64 0, .string ⟨#[]⟩, .slice (some ⟨row, 0, none⟩) 1 vc]) (by simp [results, Tryd.results46, go_sem, y0, y1, y2, y3]) rfl ?_
      rw [HG2.out]
      exact ⟨KW, 8, 0, ⟨#[]⟩, _, 1, vc, rfl, HFC.out, q, RW⟩
    | ok x q =>
      rw [hgg] at HRES
      obtain ⟨tof, rq0⟩ := HRES.out
      have Rq := Lib.hid (RSQ.out _ _ _ rq0)
      have TX : Hid (TmO wY (Made w6.drew wY) [.int .i64 tk, .int .i64 tm, .string ts, .slice tA tl tc] x) := Lib.hid tof
      have HI2 : Hid (innT L n (rdT L n r) (i + 1) = closeT L n (.mk 8 0 ⟨#[]⟩ [x]) q) := Lib.hid (by rw [HJ.out, HI.out, hgg])
      clear rq0 tof hgg
      go_wp2_with fail
      refine (rs_take ⟨#[41]⟩ _ rb _ c n q L 0 lf Rq.out (by decide)).mono ?_
      rintro e wr ⟨rfl, kr, hret⟩
      have Tr : Hid (wr.heap[tb]? = some (.cells #[.int .i64 8, .int .i64 0, .string ⟨#[]⟩, .slice (some ⟨row, 0, none⟩) 1 vc] 65 (0, 0))) := Lib.hid ((kr.block tb (lt_of_block Tq.out) HN1.out).trans Tq.out)
      have Gr : Hid (wr.heap[g0]? = some (.cells #[.int .i64 0, .int .i64 0, .string ByteArray.empty, .slice none 0 0] 65 (0, 0))) := Lib.hid ((kr.block g0 (lt_of_block Gq.out) hg0r).trans Gq.out)
      have KR : Hid (KeepR rb wq wr) := Lib.hid (kr)
      have Kr := Lib.hid (Kq.out.trans' KR.out)
      obtain ⟨x0, x1, x2, x3⟩ := term_cells Tr.out
      have hzr := lt_of_block Tr.out
      rcases hret with ⟨hy, rr⟩ | ⟨hno, rr⟩
      · have Rr := Lib.hid rr
        have HG2 : Hid (innT L n (rdT L n r) (i + 1) = .ok (.mk 8 0 ⟨#[]⟩ [x]) (q + 1)) := Lib.hid (by rw [HI2.out]; exact closeT_yes hy)
        clear rr kr hy
        obtain ⟨v0, v1, v2, v3⟩ := term_cells Gr.out
        have f0 := Lib.frozen_of_heap Gr.out 0
        have f1 := Lib.frozen_of_heap Gr.out 1
        have f2 := Lib.frozen_of_heap Gr.out 2
        have f3 := Lib.frozen_of_heap Gr.out 3
        have hz := lt_of_block Gr.out
        go_wp2_with fail
        obtain ⟨W, hWW⟩ : ∃ W, ((((wr.setCell ⟨g0, 0, none⟩ (.int .i64 8)).setCell ⟨g0, 1, none⟩ (.int .i64 0)).setCell ⟨g0, 2, none⟩ (.string ⟨#[]⟩)).setCell ⟨g0, 3, none⟩ (.slice (some ⟨row, 0, none⟩) 1 vc)) = W := ⟨_, rfl⟩
        have hWg : W.heap[g0]? = some (.cells #[.int .i64 8, .int .i64 0, .string ⟨#[]⟩, .slice (some ⟨row, 0, none⟩) 1 vc] 65 (0, 0)) := by
          rw [← hWW]
          exact term_set Gr.out _ _ _ _
        have RW : RsAt W rb (some ⟨b, off, none⟩) c n (q + 1) L 0 0 lf := by
          rw [← hWW]
          exact (Rr.out).set4 HN0.out HA1.out _ _ _ _
        have KW : KeepR rb w W := by
          rw [← hWW]
          exact set_keep4 (Kr.out) (by rw [HGG.out]; exact Nat.le_refl _) _ _ _ _
        have TW : TmO W (Made w W) [.int .i64 8, .int .i64 0, .string ⟨#[]⟩, .slice (some ⟨row, 0, none⟩) 1 vc] (.mk 8 0 ⟨#[]⟩ [x]) := by
          have hws : W.heap.size = wr.heap.size := by rw [← hWW]; simp
          have hks := KR.out.size
          obtain ⟨h01, h02, h03, h04, h05, h06⟩ := SZ.out
          have hgg0 := HGG.out
          have hkeep : ∀ bb, bb < wq.heap.size → bb ≠ g0 → bb ≠ rb → W.heap[bb]? = wq.heap[bb]? := fun bb h1 h2 h3 => by
            rw [← hWW]
            exact (set4_block h2).trans (KR.out.block bb h1 h3)
          have twb : TmO W (Made w6.drew wY) [.int .i64 tk, .int .i64 tm, .string ts, .slice tA tl tc] x := TX.out.keep fun bb hb => by
            have h1 : w6.heap.size ≤ bb := hb.1
            have h2 := hb.2
            exact (hkeep bb (by omega) (by omega) (by omega)).trans (SQ.out bb h2 (by omega))
          have hrw := hkeep row (by have := lt_of_block HR1.out; omega) (by omega) (by omega)
          exact TmO.mk' (kids := [x]) (by unfold i64in; omega) (by unfold i64in; omega) (Nat.zero_le _) HVC.out HCAP.out (TmRowO.oneR twb (rd_block HR2.out hrw) (hrw.trans HR1.out) ⟨by omega, by have := lt_of_block HR1.out; omega⟩ (fun bb hb => ⟨by have h1 : w6.heap.size ≤ bb := hb.1; omega, by have := hb.2; omega⟩) (fun hb => by have := hb.2; omega))
        obtain ⟨y0, y1, y2, y3⟩ := term_cells hWg
        rw [hWW]
        clear hWg hWW
        refine bodyPost_ret (v := .agg #[.int .i64 8, .int .i64 0, .string ⟨#[]⟩, .slice (some ⟨row, 0, none⟩) 1 vc]) (by simp [results, Tryd.results46, go_sem, y0, y1, y2, y3]) rfl ?_
        rw [HG2.out]
        exact ⟨KW, 8, 0, ⟨#[]⟩, _, 1, vc, rfl, TW, RW⟩
      · have Rr := Lib.hid rr
        have HG2 : Hid (innT L n (rdT L n r) (i + 1) = .bad 3 (posAt L n q)) := Lib.hid (by rw [HI2.out]; exact closeT_no hno)
        clear rr kr hno
        obtain ⟨v0, v1, v2, v3⟩ := term_cells Gr.out
        have f0 := Lib.frozen_of_heap Gr.out 0
        have f1 := Lib.frozen_of_heap Gr.out 1
        have f2 := Lib.frozen_of_heap Gr.out 2
        have f3 := Lib.frozen_of_heap Gr.out 3
        have hz := lt_of_block Gr.out
        go_wp2_with fail
        obtain ⟨W, hWW⟩ : ∃ W, ((((wr.setCell ⟨g0, 0, none⟩ (.int .i64 8)).setCell ⟨g0, 1, none⟩ (.int .i64 0)).setCell ⟨g0, 2, none⟩ (.string ⟨#[]⟩)).setCell ⟨g0, 3, none⟩ (.slice (some ⟨row, 0, none⟩) 1 vc)) = W := ⟨_, rfl⟩
        have hWg : W.heap[g0]? = some (.cells #[.int .i64 8, .int .i64 0, .string ⟨#[]⟩, .slice (some ⟨row, 0, none⟩) 1 vc] 65 (0, 0)) := by
          rw [← hWW]
          exact term_set Gr.out _ _ _ _
        have RW : RsAt W rb (some ⟨b, off, none⟩) c n q L 3 (posAt L n q) lf := by
          rw [← hWW]
          exact (Rr.out).set4 HN0.out HA1.out _ _ _ _
        have KW : KeepR rb w W := by
          rw [← hWW]
          exact set_keep4 (Kr.out) (by rw [HGG.out]; exact Nat.le_refl _) _ _ _ _
        obtain ⟨y0, y1, y2, y3⟩ := term_cells hWg
        rw [hWW]
        clear hWg hWW
        refine bodyPost_ret (v := .agg #[.int .i64 8, .int .i64 0, .string ⟨#[]⟩, .slice (some ⟨row, 0, none⟩) 1 vc]) (by simp [results, Tryd.results46, go_sem, y0, y1, y2, y3]) rfl ?_
        rw [HG2.out]
        exact ⟨KW, 8, 0, ⟨#[]⟩, _, 1, vc, rfl, by decide, q, RW⟩--@@

theorem sgs_ok (s : ByteArray) : SgsOk (lexR s).1 := by
  intro g hg hn
  have hgood : Good s g := by
    by_cases h : 6000 < s.size
    · rw [lexR_long h] at hg; simp at hg
    · rw [lexR_short h] at hg
      exact lexS_good s _ 0 [] (Nat.le_refl _) (fun x hx => by simp at hx) g hg
  unfold isNameL at hn
  rw [Bool.and_eq_true] at hn
  rcases hgood.tok with ⟨hk, _⟩ | ⟨_, c, r, hx, hs, _⟩ | ⟨_, hm⟩
  · exact hk
  · have := word_head g.t.data.toList c (by rw [hx]; rfl) hs
    rw [this] at hn; simp at hn
  · exfalso
    rcases mark_cases hm with e | e | ⟨c, e, _, hs, _⟩
    · have := word_head g.t.data.toList 61 (by rw [e]; rfl) (by decide)
      rw [this] at hn; simp at hn
    · have := word_head g.t.data.toList 61 (by rw [e]; rfl) (by decide)
      rw [this] at hn; simp at hn
    · have := word_head g.t.data.toList c (by rw [e]; rfl) hs
      rw [this] at hn; simp at hn
/-- a row of terms, owned from the first block on: what older blocks have become does no harm -/
theorem own_move {w0 w w' : World} {e : TypeId} {sz n c g : Nat} {xs : List Value} (h : Own w0 w e sz (.slice (some ⟨g, 0, none⟩) n c) n xs) (hb : w'.heap[g]? = w.heap[g]?) : Own { w' with heap := #[] } w' e sz (.slice (some ⟨g, 0, none⟩) n c) n xs := by
  refine ⟨⟨h.1.1, ?_⟩, ⟨rfl, rfl, rfl, Nat.zero_le _, fun k hk => absurd hk (Nat.not_lt_zero _)⟩⟩
  rcases h.1.2 with ⟨hv, h0⟩ | ⟨g', cap, cur, hv, hg, hh, h1⟩
  · exact .inl ⟨hv, h0⟩
  · injection hv with e1 e2 e3
    injection e1 with e1
    injection e1 with e1 _ _
    subst e1 e3
    exact .inr ⟨g, c, cur, rfl, Nat.zero_le _, hb.trans hh, h1⟩
theorem TmRowO.twoR {W : World} {F G G' : Nat → Prop} {row : Nat} {cur : Array Value} {e : TypeId} {t t' : Tm} {k m : Int} {s : ByteArray} {A : Option Addr} {l c : Nat} {k' m' : Int} {s' : ByteArray} {A' : Option Addr} {l' c' : Nat}
    (hT : TmO W G [.int .i64 k, .int .i64 m, .string s, .slice A l c] t) (hT' : TmO W G' [.int .i64 k', .int .i64 m', .string s', .slice A' l' c'] t')
    (rd : Rd W 4 (some ⟨row, 0, none⟩) 2 [.int .i64 k, .int .i64 m, .string s, .slice A l c, .int .i64 k', .int .i64 m', .string s', .slice A' l' c']) (hr : W.heap[row]? = some (.cells cur e (0, 0))) (hF : F row) (hGF : ∀ b, G b → F b) (hGF' : ∀ b, G' b → F b) (hn : ¬ G row) (hn' : ¬ G' row) (hd : ∀ b, G b → G' b → False) :
    TmRowO W F (some ⟨row, 0, none⟩) [t, t'] := by
  refine ⟨[.int .i64 k, .int .i64 m, .string s, .slice A l c, .int .i64 k', .int .i64 m', .string s', .slice A' l' c'], fun i => if i = 0 then G else G', ⟨rd, fun _ => ⟨row, 0, _, _, rfl, hF, hr, fun i _ => ?_⟩, fun i b _ hb => ?_, fun i j b hi hj hne h1 h2 => ?_⟩, fun i hi => ?_⟩
  · dsimp only
    split
    · exact hn
    · exact hn'
  · dsimp only at hb
    split at hb
    · exact hGF b hb
    · exact hGF' b hb
  · dsimp only at h1 h2
    simp only [List.length_cons, List.length_nil] at hi hj
    split at h1
    · rw [if_neg (by omega)] at h2
      exact hd b h1 h2
    · rw [if_pos (by omega)] at h2
      exact hd b h2 h1
  · have hi2 : i = 0 ∨ i = 1 := by simp at hi; omega
    rcases hi2 with rfl | rfl
    · exact hT
    · exact hT'
end Go.Proofs.YtdanlgmpgdipnaaDoor
