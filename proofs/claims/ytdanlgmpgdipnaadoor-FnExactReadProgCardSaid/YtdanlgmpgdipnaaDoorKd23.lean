/- Several texts in one: RsTerm3. -/
import Derived.Test.YtdanlgmpgdipnaaDoorKd22
namespace Go.Proofs.YtdanlgmpgdipnaaDoor
open Go.RowKit
set_option linter.unusedVariables false


theorem kindOf_is {t : ByteArray} {k : Int} (hk : k = 3 ∨ k = 4 ∨ k = 5 ∨ k = 6 ∨ k = 7 ∨ k = 9) (h : kindOf t = k) : t = signB k := by
  unfold kindOf at h
  repeat' split at h
  all_goals first
    | (next e => subst h; exact e)
    | omega
/-- the kind that the loop has found when it stands at j -/
def kdAt (K : Int) (j : Nat) : Int := if K < (j : Int) then K else 0
theorem kdAt_step {K : Int} {j : Nat} (h : K ≠ (j : Int)) : kdAt K (j + 1) = kdAt K j := by
  unfold kdAt
  by_cases h1 : K < (j : Int)
  · rw [if_pos h1, if_pos (by omega)]
  · rw [if_neg h1, if_neg (by omega)]
theorem kdAt_hit {K : Int} {j : Nat} (h : K = (j : Int)) : kdAt K (j + 1) = (j : Int) := by
  unfold kdAt
  rw [if_pos (by omega)]
  exact h
theorem kdAt_start {K : Int} (h : K = 0 ∨ (K = 3 ∨ K = 4 ∨ K = 5 ∨ K = 6 ∨ K = 7 ∨ K = 9)) : kdAt K 3 = 0 := by
  unfold kdAt
  split <;> omega
theorem kdAt_end {K : Int} (h : K = 0 ∨ (K = 3 ∨ K = 4 ∨ K = 5 ∨ K = 6 ∨ K = 7 ∨ K = 9)) {j : Nat} (hj : ¬ j < 10) : kdAt K j = K := by
  unfold kdAt
  rw [if_pos (by omega)]
theorem kind_in {K : Int} (h : K = 0 ∨ (K = 3 ∨ K = 4 ∨ K = 5 ∨ K = 6 ∨ K = 7 ∨ K = 9)) : i64in K := by
  unfold i64in; omega
theorem RsAt.keepS {S : Nat → Prop} {w w' : World} {rb : Nat} {A : Option Addr} {c n i : Nat} {L : List Sg} {fc : Int} {fp : Nat} {lf : Int} (h : RsAt w rb A c n i L fc fp lf) (k : Keep S w w') (hr : S rb) (hA : ∀ b o, A = some ⟨b, o, none⟩ → S b ∧ b < w.heap.size) : RsAt w' rb A c n i L fc fp lf :=
  ⟨(k.block rb h.lt hr).trans h.cells, ⟨h.rd.1, fun h0 => by
    obtain ⟨b, o, e, hc⟩ := h.rd.2 h0
    exact ⟨b, o, e, fun j x hx => (World.cell?_of_block (k.block b (hA b o e).2 (hA b o e).1)).trans (hc j x hx)⟩⟩, h.off, h.hi, h.hL, h.hc⟩
theorem own_lies {A : Option Addr} {n c m c' row row2 N : Nat} (h : (Value.slice (some ⟨row2, 0, none⟩) n c).ownBlock = (Value.slice (some ⟨row, 0, none⟩) m c').ownBlock ∨ ∃ g, (Value.slice (some ⟨row2, 0, none⟩) n c).ownBlock = some g ∧ N ≤ g) : row2 = row ∨ N ≤ row2 := by
  rcases h with h | ⟨g, h, h2⟩
  · injection h with h
    exact .inl h
  · have h3 : row2 = g := by
      injection h
    exact .inr (by omega)
theorem grew_row {v : Value} {row n c : Nat} {w w' : World} (h : Grew (.slice (some ⟨row, 0, none⟩) n c) v w w') : KeepR row w w' :=
  h.keep.mono fun i _ hi e => by
    injection e with e
    exact hi e.symm
set_option maxHeartbeats 25600000 in
set_option maxRecDepth 100000 in
theorem rs_term_two (r : Nat) (ih : TsC r) (room : Int) (g : Got Tm) (w : World) (rb : Nat) (A : Option Addr) (c n i : Nat) (L : List Sg) (lf : Int) (hs : SgsOk L) (hA : ∀ b o, A = some ⟨b, o, none⟩ → b < w.heap.size) (h : RsAt w rb A c n i L 0 0 lf) (hroom : room = (r : Int) + 1) (hr : r ≤ 5) (hk : ¬ (sgAt L i).k = 2) (hn : nmB L i = false) (hp : tx L i = ⟨#[40]⟩) (hq : ¬ tx L (i + 1) = ⟨#[110, 111, 116]⟩) (hg : g = innT L n (rdT L n r) (i + 1)) :
    Calls Tryd.prog 46 #[.pointer (some ⟨rb, 0, none⟩), .int .i64 room] w fun e w' => GsT w w' rb A c n L lf g e := by
  subst hg
  have IH := Lib.hid ih
  have HI := Lib.hid (innT_two (n := n) (rd := rdT L n r) hq)
  have hroom0 : (room == 0) = false := beq_eq_false_iff_ne.2 (by omega)
  have HQ : Hid (decide (tx L (i + 1) = ⟨#[110, 111, 116]⟩) = false) := Lib.hid (decide_eq_false hq)
  have HROOM := Lib.hid hroom
  clear ih hq hroom
  have RA := Lib.hid h
  have HA := Lib.hid hA
  have HS := Lib.hid hs
  have hL := h.hL
  have hcc := h.hc
  have hiL := h.hi
  have hrb := h.lt
  obtain ⟨_, _, _, p3, _, _⟩ := h.cs
  have HNM := Lib.hid hn
  have HP := Lib.hid hp
  have hlt : i < L.length := there_of (by rw [hp]; decide)
  have HKK : Hid (¬ L[i].k = 2) := Lib.hid (by rw [← sgAt_lt hlt]; exact hk)
  clear h hA hs hk hn hp
  go_enter Tryd.func46, Tryd.ntmps46
  go_wp2_with fail
  have BA : Below w.heap.size w ((w.alloc (.cells #[.int .i64 0, .int .i64 0, .string ByteArray.empty, .slice none 0 0] 65)).alloc (.cells #[.int .i64 0, .int .i64 0, .string ⟨#[]⟩, .slice none 0 0] 65)) := (by repeat' (first | exact Below.refl _ _ | exact Nat.le_refl _ | (refine Below.alloc ?_ ?_ _) | (refine Below.setCell ?_ ?_ _) | (refine Below.drew ?_) | (refine below_drewN ?_ _) | assumption | (simp; done) | (simp; omega)))
  refine (rs_named _ rb A c n i L 0 0 lf (RA.out.below BA) HS.out).mono ?_
  rintro e w1 ⟨rfl, b1⟩
  rw [show (decide ((0 : Int) = 0) && nmB L i) = false from by rw [HNM.out]; rfl]
  have B1 : Hid (Below w.heap.size w w1) := Lib.hid (BA.trans (b1.mono BA.size))
  have R1 := Lib.hid (RA.out.below B1.out)
  have HG0 : Hid (w1.heap[w.heap.size]? = some (.cells #[.int .i64 0, .int .i64 0, .string ByteArray.empty, .slice none 0 0] 65 (0, 0))) := Lib.hid ((b1.block _ (by simp; omega)).trans ((heap_alloc_lt (by simp)).trans (heap_alloc_new _ _)))
  have HTB : Hid (w1.heap[w.heap.size + 1]? = some (.cells #[.int .i64 0, .int .i64 0, .string ⟨#[]⟩, .slice none 0 0] 65 (0, 0))) := Lib.hid ((b1.block _ (by simp)).trans (by have := heap_alloc_new (w.alloc (.cells #[.int .i64 0, .int .i64 0, .string ByteArray.empty, .slice none 0 0] 65)) (.cells #[.int .i64 0, .int .i64 0, .string ⟨#[]⟩, .slice none 0 0] 65); simpa using this))
  have K1 : Hid (KeepR rb w w1) := Lib.hid (KeepR.of_below' B1.out)
  have hz1 := lt_of_block HTB.out
  have hrb1 := R1.out.lt
  obtain ⟨g0, hg0⟩ : ∃ g, w.heap.size = g := ⟨_, rfl⟩
  obtain ⟨tb, htb⟩ : ∃ g, w.heap.size + 1 = g := ⟨_, rfl⟩
  have HN0 : Hid (g0 ≠ rb) := Lib.hid (by omega)
  have HN1 : Hid (tb ≠ rb) := Lib.hid (by omega)
  have HA1 : Hid (∀ b o, A = some ⟨b, o, none⟩ → b ≠ g0) := Lib.hid (fun b o e => by have := HA.out b o e; omega)
  have HGG := Lib.hid hg0
  have hg0r : ¬ g0 = rb := HN0.out
  have hg0t : g0 < tb := by omega
  have htb1 : g0 + 1 = tb := by omega
  rw [hg0] at HG0 ⊢
  rw [htb] at HTB hz1
  rw [htb1]
  have hz0 := lt_of_block HG0.out
  clear b1 BA hg0 htb htb1 p3
  have hAI := HA.out
  obtain ⟨b, off, rfl, e0, e1, e2⟩ := rd_sg R1.out.rd hlt
  obtain ⟨x, hx⟩ : ∃ x, L[i] = x := ⟨_, rfl⟩
  have HX := Lib.hid hx
  rw [hx] at e0 e1
  obtain ⟨xk, xt, xp⟩ := x
  simp only at e0 e1
  have E0 := Lib.hid e0
  have E1 := Lib.hid e1
  have h0i : (0 : Int) ≤ (i : Int) := by omega
  have hdi : (i : Int) < (L.length : Int) := by omega
  clear hx e0 e1 e2
  have hxk : (xk == 2) = false := beq_eq_false_iff_ne.2 (by have := HKK.out; rw [HX.out] at this; exact this)
  go_upto_region 6 with fail
  refine wp_region_later (by kernel_rfl) (by kernel_rfl) ?_
  intro gw hgw hcw
  have HG := Lib.hid hgw
  have HC := Lib.hid hcw
  clear hgw hcw
  have P := Lib.hid (fun m => (R1.out.below (HG.out m)).cs)
  have p0 : ∀ m, (gw m).cell? ⟨rb, 0, none⟩ = some (.slice (some ⟨b, off, none⟩) L.length c) := fun m => (P.out m).1
  have p1 : ∀ m, (gw m).cell? ⟨rb, 1, none⟩ = some (.int .i64 (i : Int)) := fun m => (P.out m).2.1
  have s0 : ∀ m, (gw m).cell? ⟨b, off + i * 3, none⟩ = some (.int .i64 xk) := fun m => cell_keep (HG.out m) E0.out
  have s1 : ∀ m, (gw m).cell? ⟨b, off + i * 3 + 1, none⟩ = some (.string xt) := fun m => cell_keep (HG.out m) E1.out
  repeat (go_big_quiet_step (fail))
  refine wpQuiet_nil ?_
  intro _ hw'
  obtain ⟨nq, hw''⟩ := hw'
  subst hw''
  rename Later _ => mm
  have R2 := Lib.hid (R1.out.below (HG.out mm))
  have K2 := Lib.hid (K1.out.trans' (KeepR.of_below' (HG.out mm)))
  have G2 : Hid ((gw mm).heap[g0]? = some (.cells #[.int .i64 0, .int .i64 0, .string ByteArray.empty, .slice none 0 0] 65 (0, 0))) := Lib.hid (((HG.out mm).block g0 (lt_of_block HG0.out)).trans HG0.out)
  have T2 : Hid ((gw mm).heap[tb]? = some (.cells #[.int .i64 0, .int .i64 0, .string ⟨#[]⟩, .slice none 0 0] 65 (0, 0))) := Lib.hid (((HG.out mm).block tb (lt_of_block HTB.out)).trans HTB.out)
  have E20 : Hid ((gw mm).cell? ⟨b, off + i * 3, none⟩ = some (.int .i64 xk)) := Lib.hid (cell_keep (HG.out mm) E0.out)
  have E21 : Hid ((gw mm).cell? ⟨b, off + i * 3 + 1, none⟩ = some (.string xt)) := Lib.hid (cell_keep (HG.out mm) E1.out)
  clear p0 p1 s0 s1 P
  generalize gw mm = w2 at *
  go_wp2_with fail
  refine (rs_is ⟨#[40]⟩ _ rb _ c n i L 0 0 lf R2.out (by decide)).mono ?_
  rintro e w3 ⟨rfl, b3⟩
  rw [show (decide ((0 : Int) = 0) && decide (tx L i = ⟨#[40]⟩)) = true from by rw [decide_eq_true HP.out]; rfl]
  have R3 := Lib.hid (R2.out.below b3)
  have K3 := Lib.hid (K2.out.trans' (KeepR.of_below' b3))
  have G3 : Hid (w3.heap[g0]? = some (.cells #[.int .i64 0, .int .i64 0, .string ByteArray.empty, .slice none 0 0] 65 (0, 0))) := Lib.hid ((b3.block g0 (lt_of_block G2.out)).trans G2.out)
  have T3 : Hid (w3.heap[tb]? = some (.cells #[.int .i64 0, .int .i64 0, .string ⟨#[]⟩, .slice none 0 0] 65 (0, 0))) := Lib.hid ((b3.block tb (lt_of_block T2.out)).trans T2.out)
  clear b3
  obtain ⟨j, hj⟩ : ∃ j, i + 1 = j := ⟨_, rfl⟩
  have HJ := Lib.hid hj
  rw [hj] at HQ HI
  have hj6 : j ≤ 6000 := by omega
  go_wp2_with fail
  refine (rs_take ⟨#[40]⟩ _ rb _ c n i L 0 lf R3.out (by decide)).mono ?_
  rintro e w4 ⟨rfl, k4, hret⟩
  rcases hret with ⟨_, r4⟩ | ⟨hno, _⟩
  case inr => exact absurd HP.out hno
  rw [hj] at r4
  have R4 := Lib.hid r4
  have K4 := Lib.hid (K3.out.trans' (k4))
  have G4 : Hid (w4.heap[g0]? = some (.cells #[.int .i64 0, .int .i64 0, .string ByteArray.empty, .slice none 0 0] 65 (0, 0))) := Lib.hid ((k4.block g0 (lt_of_block G3.out) hg0r).trans G3.out)
  have T4 : Hid (w4.heap[tb]? = some (.cells #[.int .i64 0, .int .i64 0, .string ⟨#[]⟩, .slice none 0 0] 65 (0, 0))) := Lib.hid ((k4.block tb (lt_of_block T3.out) HN1.out).trans T3.out)
  clear r4 k4 hj
  go_wp2_with fail
  refine (rs_is ⟨#[110, 111, 116]⟩ _ rb _ c n j L 0 0 lf R4.out (by decide)).mono ?_
  rintro e w5 ⟨rfl, b5⟩
  rw [show (decide ((0 : Int) = 0) && decide (tx L j = ⟨#[110, 111, 116]⟩)) = false from by rw [HQ.out]; rfl]
  have R5 := Lib.hid (R4.out.below b5)
  have K5 := Lib.hid (K4.out.trans' (KeepR.of_below' b5))
  have G5 : Hid (w5.heap[g0]? = some (.cells #[.int .i64 0, .int .i64 0, .string ByteArray.empty, .slice none 0 0] 65 (0, 0))) := Lib.hid ((b5.block g0 (lt_of_block G4.out)).trans G4.out)
  have T5 : Hid (w5.heap[tb]? = some (.cells #[.int .i64 0, .int .i64 0, .string ⟨#[]⟩, .slice none 0 0] 65 (0, 0))) := Lib.hid ((b5.block tb (lt_of_block T4.out)).trans T4.out)
  clear b5
  have hz5 := lt_of_block T5.out
  obtain ⟨x0, x1, x2, x3⟩ := term_cells T5.out
  have xf := Lib.frozen_of_heap T5.out 3
  have htr : ¬ tb = rb := HN1.out
  have htr2 : ¬ rb = tb := fun e => HN1.out e.symm
  go_upto_region 20 with fail
  have hrb6 := R5.out.lt
  have hwr : IntKind.i64.wrap (room - 1) = (r : Int) := by rw [HROOM.out, Int.add_sub_cancel]; exact IntWalk.i64_in _ (by omega)
  have TT := T5
  have HAB : Hid (∀ b' o', (some ⟨b, off, none⟩ : Option Addr) = some ⟨b', o', none⟩ → b' < w5.drew.heap.size) := Lib.hid (fun b' o' e => by have h1 := hAI b' o' e; have h2 := K5.out.size; show b' < w5.heap.size; omega)
  have hg6 := lt_of_block G5.out
  have hw66 := K5.out.size
  go_region_law (first
    | (go_simp; go_at_call 46; have hcl := IH.out w5.drew rb _ c n j L lf HS.out HAB.out (R5.out.below (Below.refl _ _).drew); refine hcl.mono ?_; clear hcl; rintro e wY ⟨kY', tk, tm, ts, tA, tl, tc, rfl, hres⟩; have HRES := Lib.hid hres; have kY : KeepR rb w5 wY := KeepR.trans' (KeepR.of_below' (by repeat' (first | exact Below.refl _ _ | exact Nat.le_refl _ | (refine Below.alloc ?_ ?_ _) | (refine Below.setCell ?_ ?_ _) | (refine Below.drew ?_) | (refine below_drewN ?_ _) | assumption | (simp; done) | (simp; omega)))) kY'; have KY := Lib.hid kY; have TY := Lib.hid ((kY.block tb hz5 HN1.out).trans TT.out); obtain ⟨z0, z1, z2, z3⟩ := term_cells TY.out; have zf := Lib.frozen_of_heap TY.out 3; have hzY := lt_of_block TY.out; clear kY kY' hres)
    | (refine step_kid (by rfl) _ _ (by rfl) (by rfl) (Own.start _ _ _) _ 1 1 [.int .i64 tk, .int .i64 tm, .string ts, .slice tA tl tc] (by rfl) (by first | exact Rd.new _ 4 1 _ _ rfl | exact (Rd.new _ 4 1 _ _ rfl).drew) (by simp [Value.oneCell']) (by omega) ?_; intro v' wZ own' gr'; have bW : Below wY.heap.size wY wZ := Below.trans (Below.alloc (Below.refl _ _) (Nat.le_refl _) _) (own'.2.mono (by simp)); have TZ := Lib.hid ((bW.block tb hzY).trans TY.out); obtain ⟨t0, t1, t2, t3⟩ := term_cells TZ.out; have tf := Lib.frozen_of_heap TZ.out 3; have hzZ := lt_of_block TZ.out; obtain ⟨vA, vc, rfl, hvc⟩ := own'.slice; have hrow := own_row own' (by omega); have hrdo := Own.rd own'; have hcap := own_cap' own'; have BZ := Lib.hid bW; have OWN := Lib.hid own'; have HVC := Lib.hid hvc; have HROW := Lib.hid hrow; have HRDO := Lib.hid hrdo; have HCAP := Lib.hid hcap; have hsr : wY.heap.size < (wY.alloc (.cells #[.int .i64 tk, .int .i64 tm, .string ts, .slice tA tl tc] 65)).heap.size := (by simp); have HSR := Lib.hid hsr; clear own' gr' hvc hrow hrdo hcap hsr))
  all_goals
    obtain ⟨wq, hwq⟩ : ∃ wq, wZ.setCell ⟨tb, 3, none⟩ (.slice vA 1 vc) = wq := ⟨_, rfl⟩
    obtain ⟨row, cur, rfl, hrow1, hrow2⟩ := HROW.out
    have hgt : tb < wY.heap.size := lt_of_block TY.out
    have hsr := HSR.out
    have hrt : row ≠ tb := by omega
    have hyz := BZ.out.size
    have h6y := KY.out.size
    have Kq : Hid (KeepR rb w wq) := Lib.hid (by rw [← hwq]; exact set_keep1 ((K5.out.trans' KY.out).trans' (KeepR.of_below' BZ.out)) (by have := HGG.out; omega) _ _)
    have GY : Hid (wY.heap[g0]? = some (.cells #[.int .i64 0, .int .i64 0, .string ByteArray.empty, .slice none 0 0] 65 (0, 0))) := Lib.hid ((KY.out.block g0 hg6 hg0r).trans G5.out)
    have Gq : Hid (wq.heap[g0]? = some (.cells #[.int .i64 0, .int .i64 0, .string ByteArray.empty, .slice none 0 0] 65 (0, 0))) := Lib.hid (by rw [← hwq]; exact (Below.heap_setCell wZ ⟨tb, 3, none⟩ _ g0 (by show g0 ≠ tb; omega)).trans ((BZ.out.block g0 (lt_of_block GY.out)).trans GY.out))
    have Tq : Hid (wq.heap[tb]? = some (.cells #[.int .i64 0, .int .i64 0, .string ⟨#[]⟩, .slice (some ⟨row, 0, none⟩) 1 vc] 65 (0, 0))) := Lib.hid (by rw [← hwq]; have := TZ.out; simp [World.setCell, Array.getElem?_modify, this])
    have SQ : Hid (∀ bb, bb < wY.heap.size → bb ≠ tb → wq.heap[bb]? = wY.heap[bb]?) := Lib.hid (fun bb h1 h2 => by rw [← hwq]; exact (Below.heap_setCell wZ ⟨tb, 3, none⟩ _ bb h2).trans (BZ.out.block bb h1))
    have HRE : wq.heap[row]? = wZ.heap[row]? := by rw [← hwq]; exact Below.heap_setCell wZ ⟨tb, 3, none⟩ _ row hrt
    have HRO : Hid (wZ.heap[row]? = some (.cells cur 65 (0, 0))) := Lib.hid hrow2
    have HR1 : Hid (wq.heap[row]? = some (.cells cur 65 (0, 0))) := Lib.hid (HRE.trans hrow2)
    have hqs : wq.heap.size = wZ.heap.size := by rw [← hwq]; simp
    have hrq : row < wq.heap.size := lt_of_block HR1.out
    have SZ : Hid (g0 < w5.heap.size ∧ rb < w5.heap.size ∧ tb < w5.heap.size ∧ w5.heap.size ≤ wY.heap.size ∧ wY.heap.size ≤ row ∧ wY.heap.size ≤ wq.heap.size ∧ row < wq.heap.size) := Lib.hid ⟨hg6, hrb6, hz5, h6y, by omega, by omega, hrq⟩
    have RSQ : Hid (∀ (q : Nat) (fc : Int) (fp : Nat), RsAt wY rb (some ⟨b, off, none⟩) c n q L fc fp lf → RsAt wq rb (some ⟨b, off, none⟩) c n q L fc fp lf) := Lib.hid (fun q fc fp hh => by rw [← hwq]; exact (hh.below BZ.out).setg HN1.out (fun b' o' e => by have := hAI b' o' e; have := HGG.out; omega) _ _)
    have hrrb : row ≠ rb := by omega
    have htrow : tb ≠ row := by omega
    rw [hwq]
    clear hwq x0 x1 x2 x3 z0 z1 z2 z3 zf t0 t1 t2 t3 tf xf HRE hrow2
    cases hgg : rdT L n r j with
    | bad fc fp =>
      rw [hgg] at HRES
      obtain ⟨hfc, q, rq0⟩ := HRES.out
      have Rq := Lib.hid (RSQ.out _ _ _ rq0)
      have HFC := Lib.hid hfc
      have hfb2 : (fc == 0) = false := beq_eq_false_iff_ne.2 hfc
      have HG2 : Hid (innT L n (rdT L n r) (i + 1) = .bad fc fp) := Lib.hid (by rw [HJ.out, HI.out, hgg])
      clear rq0 hfc hgg
      go_wp2_with fail
      go_loopw [8] (fun iv wr => ∃ j : Nat, 3 ≤ j ∧ j ≤ 10 ∧ iv = .int .i64 (j : Int) ∧ Hid (Below wq.heap.size wq wr)) (fun iv _ => 10 - (intOf iv).toNat)
      case atStart => exact ⟨3, Nat.le_refl _, by omega, rfl, Lib.hid (Below.refl _ _)⟩
      case round =>
        obtain ⟨jj, hj3, hjj, rfl, HB⟩ := hrel
        by_cases hlt' : jj < 10
        · have h0 : (jj : Int) ≤ 9 := by omega
          by_cases h8 : jj = 8
          · subst h8
            go_wp2_with fail
            go_roundw
            case rel => exact ⟨9, by omega, by omega, by go_num, HB⟩
            case measure => simp [intOf]
          have hk : (jj : Int) = 3 ∨ (jj : Int) = 4 ∨ (jj : Int) = 5 ∨ (jj : Int) = 6 ∨ (jj : Int) = 7 ∨ (jj : Int) = 9 := by omega
          have HKJ := Lib.hid hk
          have h8i : ((jj : Int) != 8) = true := by rw [bne_iff_ne]; omega
          have h8j : ((jj : Int) == 8) = false := beq_eq_false_iff_ne.2 (by omega)
          clear hk
          go_wp2_with fail
          refine (spec_l03Sign (jj : Int) HKJ.out _).mono ?_
          rintro e wa ⟨rfl, ba⟩
          have HBa := Lib.hid (below_then HB.out ba)
          clear ba
          go_wp2_with fail
          refine (rs_is (signB (jj : Int)) _ rb _ c n q L fc fp lf (Rq.out.below HBa.out) (signB_ne HKJ.out)).mono ?_
          rintro e wb ⟨rfl, bb⟩
          rw [show (decide (fc = 0) && decide (tx L q = signB (jj : Int))) = false from by rw [decide_eq_false HFC.out]; rfl]
          have HBb := Lib.hid (below_then HBa.out bb)
          clear bb
          go_wp2_with fail
          go_roundw
          case rel => exact ⟨jj + 1, by omega, by omega, by go_num, HBb⟩
          case measure => simp [intOf]; omega
        · have h0 : ¬ (jj : Int) ≤ 9 := by omega
          have Rs := Lib.hid (Rq.out.below HB.out)
          have Ts : Hid (wr.heap[tb]? = some (.cells #[.int .i64 0, .int .i64 0, .string ⟨#[]⟩, .slice (some ⟨row, 0, none⟩) 1 vc] 65 (0, 0))) := Lib.hid ((HB.out.block tb (lt_of_block Tq.out)).trans Tq.out)
          have Gs : Hid (wr.heap[g0]? = some (.cells #[.int .i64 0, .int .i64 0, .string ByteArray.empty, .slice none 0 0] 65 (0, 0))) := Lib.hid ((HB.out.block g0 (lt_of_block Gq.out)).trans Gq.out)
          have KS : Hid (KeepR rb wq wr) := Lib.hid (KeepR.of_below' HB.out)
          have Ks := Lib.hid (Kq.out.trans' KS.out)
          obtain ⟨x0, x1, x2, x3⟩ := term_cells Ts.out
          have hzr := lt_of_block Ts.out
          obtain ⟨v0, v1, v2, v3⟩ := term_cells Gs.out
          have f0 := Lib.frozen_of_heap Gs.out 0
          have f1 := Lib.frozen_of_heap Gs.out 1
          have f2 := Lib.frozen_of_heap Gs.out 2
          have f3 := Lib.frozen_of_heap Gs.out 3
          have hz := lt_of_block Gs.out
          go_wp2_with fail
          refine (rs_bad2 3 _ rb _ c n q L fc fp lf Rs.out HFC.out).mono ?_
          rintro e wc ⟨rfl, rfl⟩
          go_wp2_with fail
          obtain ⟨W, hWW⟩ : ∃ W, ((((wr.setCell ⟨g0, 0, none⟩ (.int .i64 0)).setCell ⟨g0, 1, none⟩ (.int .i64 0)).setCell ⟨g0, 2, none⟩ (.string ⟨#[]⟩)).setCell ⟨g0, 3, none⟩ (.slice (some ⟨row, 0, none⟩) 1 vc)) = W := ⟨_, rfl⟩
          have hWg : W.heap[g0]? = some (.cells #[.int .i64 0, .int .i64 0, .string ⟨#[]⟩, .slice (some ⟨row, 0, none⟩) 1 vc] 65 (0, 0)) := by
            rw [← hWW]
            exact term_set Gs.out _ _ _ _
          have RW : RsAt W rb (some ⟨b, off, none⟩) c n q L fc fp lf := by
            rw [← hWW]
            exact (Rs.out).set4 HN0.out HA1.out _ _ _ _
          have KW : KeepR rb w W := by
            rw [← hWW]
            exact set_keep4 (Ks.out) (by rw [HGG.out]; exact Nat.le_refl _) _ _ _ _
          obtain ⟨y0, y1, y2, y3⟩ := term_cells hWg
          rw [hWW]
          clear hWg hWW
          refine bodyPost_ret (v := .agg #[.int .i64 0, .int .i64 0, .string ⟨#[]⟩, .slice (some ⟨row, 0, none⟩) 1 vc]) (by simp [results, Tryd.results46, go_sem, y0, y1, y2, y3]) rfl ?_
          rw [HG2.out]
          exact ⟨KW, 0, 0, ⟨#[]⟩, _, 1, vc, rfl, HFC.out, q, RW⟩
    | ok x q =>
      rw [hgg] at HRES
      obtain ⟨tof, rq0⟩ := HRES.out
      have Rq := Lib.hid (RSQ.out _ _ _ rq0)
      have TX : Hid (TmO wY (Made w5.drew wY) [.int .i64 tk, .int .i64 tm, .string ts, .slice tA tl tc] x) := Lib.hid tof
      obtain ⟨KD, hKD⟩ : ∃ K, kindOf (tx L q) = K := ⟨_, rfl⟩
      have HKD := Lib.hid hKD
      have HCS := Lib.hid (hKD ▸ kindOf_cases (tx L q))
      have HI2 : Hid (innT L n (rdT L n r) (i + 1) = (if KD = 0 then .bad 3 (posAt L n q) else match rdT L n r (q + 1) with | .bad c p => .bad c p | .ok b q2 => closeT L n (.mk KD 0 ⟨#[]⟩ [x, b]) q2)) := Lib.hid (by rw [HJ.out, HI.out, hgg]; show (if kindOf (tx L q) = 0 then _ else _) = _; rw [hKD]; rfl)
      clear rq0 tof hgg hKD
      go_wp2_with fail
      go_loopw [8] (fun iv wr => ∃ j : Nat, 3 ≤ j ∧ j ≤ 10 ∧ iv = .int .i64 (j : Int) ∧ Hid (KeepR tb wq wr ∧ wr.heap[tb]? = some (.cells #[.int .i64 (kdAt KD j), .int .i64 0, .string ⟨#[]⟩, .slice (some ⟨row, 0, none⟩) 1 vc] 65 (0, 0)))) (fun iv _ => 10 - (intOf iv).toNat)
      case atStart => exact ⟨3, Nat.le_refl _, by omega, rfl, Lib.hid ⟨Keep.refl _ _, by rw [kdAt_start HCS.out]; exact Tq.out⟩⟩
      case round =>
        obtain ⟨jj, hj3, hjj, rfl, HB⟩ := hrel
        by_cases hlt' : jj < 10
        · have h0 : (jj : Int) ≤ 9 := by omega
          by_cases h8 : jj = 8
          · subst h8
            go_wp2_with fail
            go_roundw
            case rel => exact ⟨9, by omega, by omega, by go_num, Lib.hid ⟨HB.out.1, by rw [kdAt_step (j := 8) (by have := HCS.out; omega)]; exact HB.out.2⟩⟩
            case measure => simp [intOf]
          have hk : (jj : Int) = 3 ∨ (jj : Int) = 4 ∨ (jj : Int) = 5 ∨ (jj : Int) = 6 ∨ (jj : Int) = 7 ∨ (jj : Int) = 9 := by omega
          have HKJ := Lib.hid hk
          have h8i : ((jj : Int) != 8) = true := by rw [bne_iff_ne]; omega
          have h8j : ((jj : Int) == 8) = false := beq_eq_false_iff_ne.2 (by omega)
          clear hk
          go_wp2_with fail
          refine (spec_l03Sign (jj : Int) HKJ.out _).mono ?_
          rintro e wa ⟨rfl, ba⟩
          have HBa : Hid (KeepR tb wq wa ∧ wa.heap[tb]? = some (.cells #[.int .i64 (kdAt KD jj), .int .i64 0, .string ⟨#[]⟩, .slice (some ⟨row, 0, none⟩) 1 vc] 65 (0, 0))) := Lib.hid ⟨HB.out.1.trans' (KeepR.of_below' ba), (ba.block tb (lt_of_block HB.out.2)).trans HB.out.2⟩
          clear ba
          go_wp2_with fail
          refine (rs_is (signB (jj : Int)) _ rb _ c n q L 0 0 lf (Rq.out.keepS HBa.out.1 (by show rb ≠ tb; exact htr2) (fun b' o' e => ⟨by show b' ≠ tb; have := hAI b' o' e; have := HGG.out; omega, by have := hAI b' o' e; have := HGG.out; have := SZ.out; omega⟩)) (signB_ne HKJ.out)).mono ?_
          rintro e wb ⟨rfl, bb⟩
          have HBb : Hid (KeepR tb wq wb ∧ wb.heap[tb]? = some (.cells #[.int .i64 (kdAt KD jj), .int .i64 0, .string ⟨#[]⟩, .slice (some ⟨row, 0, none⟩) 1 vc] 65 (0, 0))) := Lib.hid ⟨HBa.out.1.trans' (KeepR.of_below' bb), (bb.block tb (lt_of_block HBa.out.2)).trans HBa.out.2⟩
          clear bb
          by_cases hyes : tx L q = signB (jj : Int)
          · rw [show (decide ((0 : Int) = 0) && decide (tx L q = signB (jj : Int))) = true from by rw [decide_eq_true hyes]; rfl]
            have hkd : KD = (jj : Int) := by rw [← HKD.out, hyes]; exact kindOf_sign _ HKJ.out
            obtain ⟨x0, x1, x2, x3⟩ := term_cells HBb.out.2
            have xf := Lib.frozen_of_heap HBb.out.2 0
            have hzb := lt_of_block HBb.out.2
            go_wp2_with fail
            go_roundw
            case rel => exact ⟨jj + 1, by omega, by omega, by go_num, Lib.hid ⟨HBb.out.1.setCell (p := ⟨tb, 0, none⟩) (by simp) _, by rw [kdAt_hit hkd]; have := HBb.out.2; simp [World.setCell, Array.getElem?_modify, this]⟩⟩
            case measure => simp [intOf]; omega
          · rw [show (decide ((0 : Int) = 0) && decide (tx L q = signB (jj : Int))) = false from by rw [decide_eq_false hyes]; rfl]
            have hkd : KD ≠ (jj : Int) := fun e => hyes (kindOf_is HKJ.out (HKD.out.trans e))
            go_wp2_with fail
            go_roundw
            case rel => exact ⟨jj + 1, by omega, by omega, by go_num, Lib.hid ⟨HBb.out.1, by rw [kdAt_step hkd]; exact HBb.out.2⟩⟩
            case measure => simp [intOf]; omega
        · have h0 : ¬ (jj : Int) ≤ 9 := by omega
          have HB2 : Hid (KeepR tb wq wr ∧ wr.heap[tb]? = some (.cells #[.int .i64 KD, .int .i64 0, .string ⟨#[]⟩, .slice (some ⟨row, 0, none⟩) 1 vc] 65 (0, 0))) := Lib.hid ⟨HB.out.1, by have := HB.out.2; rw [kdAt_end HCS.out hlt'] at this; exact this⟩
          have Tr := Lib.hid HB2.out.2
          have Gr : Hid (wr.heap[g0]? = some (.cells #[.int .i64 0, .int .i64 0, .string ByteArray.empty, .slice none 0 0] 65 (0, 0))) := Lib.hid ((HB2.out.1.block g0 (lt_of_block Gq.out) (by show g0 ≠ tb; omega)).trans Gq.out)
          have Rr := Lib.hid (Rq.out.keepS HB2.out.1 (by show rb ≠ tb; exact htr2) (fun b' o' e => ⟨by show b' ≠ tb; have := hAI b' o' e; have := HGG.out; omega, by have := hAI b' o' e; have := HGG.out; have := SZ.out; omega⟩))
          have Kr : Hid (KeepR rb w wr) := Lib.hid (Keep.trans Kq.out HB2.out.1 (fun b' h1 _ => by show b' ≠ tb; have := HGG.out; omega))
          have Kqr : Hid (KeepR tb wq wr) := Lib.hid HB2.out.1
          clear HB HB2
          obtain ⟨x0, x1, x2, x3⟩ := term_cells Tr.out
          have hzr := lt_of_block Tr.out
          by_cases hk0 : KD = 0
          · subst hk0
            have HG2 : Hid (innT L n (rdT L n r) (i + 1) = .bad 3 (posAt L n q)) := Lib.hid (by rw [HI2.out, if_pos rfl])
            go_wp2_with fail
            refine (rs_bad 3 _ rb _ c n q L 0 lf Rr.out).mono ?_
            rintro e wc ⟨rfl, rr, kr⟩
            have Rs := Lib.hid rr
            clear x0 x1 x2 x3
            have Ts : Hid (wc.heap[tb]? = some (.cells #[.int .i64 0, .int .i64 0, .string ⟨#[]⟩, .slice (some ⟨row, 0, none⟩) 1 vc] 65 (0, 0))) := Lib.hid ((kr.block tb (lt_of_block Tr.out) HN1.out).trans Tr.out)
            have Gs : Hid (wc.heap[g0]? = some (.cells #[.int .i64 0, .int .i64 0, .string ByteArray.empty, .slice none 0 0] 65 (0, 0))) := Lib.hid ((kr.block g0 (lt_of_block Gr.out) hg0r).trans Gr.out)
            have KS : Hid (KeepR rb wr wc) := Lib.hid (kr)
            have Ks := Lib.hid (Kr.out.trans' KS.out)
            obtain ⟨x0, x1, x2, x3⟩ := term_cells Ts.out
            have hzr := lt_of_block Ts.out
            clear rr kr
            obtain ⟨v0, v1, v2, v3⟩ := term_cells Gs.out
            have f0 := Lib.frozen_of_heap Gs.out 0
            have f1 := Lib.frozen_of_heap Gs.out 1
            have f2 := Lib.frozen_of_heap Gs.out 2
            have f3 := Lib.frozen_of_heap Gs.out 3
            have hz := lt_of_block Gs.out
            go_wp2_with fail
            obtain ⟨W, hWW⟩ : ∃ W, ((((wc.setCell ⟨g0, 0, none⟩ (.int .i64 0)).setCell ⟨g0, 1, none⟩ (.int .i64 0)).setCell ⟨g0, 2, none⟩ (.string ⟨#[]⟩)).setCell ⟨g0, 3, none⟩ (.slice (some ⟨row, 0, none⟩) 1 vc)) = W := ⟨_, rfl⟩
            have hWg : W.heap[g0]? = some (.cells #[.int .i64 0, .int .i64 0, .string ⟨#[]⟩, .slice (some ⟨row, 0, none⟩) 1 vc] 65 (0, 0)) := by
              rw [← hWW]
              exact term_set Gs.out _ _ _ _
            have RW : RsAt W rb (some ⟨b, off, none⟩) c n q L 3 (posAt L n q) lf := by
              rw [← hWW]
              exact (Rs.out).set4 HN0.out HA1.out _ _ _ _
            have KW : KeepR rb w W := by
              rw [← hWW]
              exact set_keep4 (Ks.out) (by rw [HGG.out]; exact Nat.le_refl _) _ _ _ _
            obtain ⟨y0, y1, y2, y3⟩ := term_cells hWg
            rw [hWW]
            clear hWg hWW
            refine bodyPost_ret (v := .agg #[.int .i64 0, .int .i64 0, .string ⟨#[]⟩, .slice (some ⟨row, 0, none⟩) 1 vc]) (by simp [results, Tryd.results46, go_sem, y0, y1, y2, y3]) rfl ?_
            rw [HG2.out]
            exact ⟨KW, 0, 0, ⟨#[]⟩, _, 1, vc, rfl, by decide, q, RW⟩
          · have hkb : (KD == 0) = false := beq_eq_false_iff_ne.2 hk0
            have hq6 : q < L.length := there_kind (by rw [HKD.out]; exact hk0)
            have HI3 : Hid (innT L n (rdT L n r) (i + 1) = (match rdT L n r (q + 1) with | .bad c p => .bad c p | .ok b q2 => closeT L n (.mk KD 0 ⟨#[]⟩ [x, b]) q2)) := Lib.hid (by rw [HI2.out, if_neg hk0])
            have HKI : Hid (i64in KD) := Lib.hid (kind_in HCS.out)
            have hq1 : q + 1 ≤ 6000 := by omega
            obtain ⟨_, q1, _⟩ := Rr.out.cs
            have gq1 := Rr.out.fz 1
            have hrbr := Rr.out.lt
            go_upto_region 30 with fail
            obtain ⟨w8, hw8⟩ : ∃ w8, wr.setCell ⟨rb, 1, none⟩ (.int .i64 ((q : Int) + 1)) = w8 := ⟨_, rfl⟩
            have T8 : Hid (w8.heap[tb]? = some (.cells #[.int .i64 KD, .int .i64 0, .string ⟨#[]⟩, .slice (some ⟨row, 0, none⟩) 1 vc] 65 (0, 0))) := Lib.hid (by rw [← hw8]; exact (Below.heap_setCell wr ⟨rb, 1, none⟩ _ tb (by show tb ≠ rb; exact HN1.out)).trans Tr.out)
            have G8 : Hid (w8.heap[g0]? = some (.cells #[.int .i64 0, .int .i64 0, .string ByteArray.empty, .slice none 0 0] 65 (0, 0))) := Lib.hid (by rw [← hw8]; exact (Below.heap_setCell wr ⟨rb, 1, none⟩ _ g0 hg0r).trans Gr.out)
            have R8 : Hid (RsAt w8 rb (some ⟨b, off, none⟩) c n (q + 1) L 0 0 lf) := Lib.hid (by rw [← hw8]; exact Rr.out.seti hq1)
            have K8 : Hid (KeepR rb w w8) := Lib.hid (by rw [← hw8]; exact Kr.out.setCell (p := ⟨rb, 1, none⟩) (by simp) _)
            have HR8 : Hid (w8.heap[row]? = some (.cells cur 65 (0, 0))) := Lib.hid (by rw [← hw8]; exact (Below.heap_setCell wr ⟨rb, 1, none⟩ _ row hrrb).trans ((Kqr.out.block row hrq (by show row ≠ tb; exact hrt)).trans HR1.out))
            have S8 : Hid (∀ bb, bb < wY.heap.size → bb ≠ tb → bb ≠ rb → w8.heap[bb]? = wY.heap[bb]?) := Lib.hid (fun bb h1 h2 h3 => by rw [← hw8]; exact (Below.heap_setCell wr ⟨rb, 1, none⟩ _ bb h3).trans ((Kqr.out.block bb (by have := SZ.out; omega) h2).trans (SQ.out bb h1 h2)))
            have hr8 : row < w8.heap.size := lt_of_block HR8.out
            rw [hw8]
            clear hw8 q1 gq1 x0 x1 x2 x3 Kqr SQ HR1
            obtain ⟨x0, x1, x2, x3⟩ := term_cells T8.out
            have xf := Lib.frozen_of_heap T8.out 3
            have hz8 := lt_of_block T8.out
            have hrb8 := R8.out.lt
            have TT2 := T8
            have HAB2 : Hid (∀ b' o', (some ⟨b, off, none⟩ : Option Addr) = some ⟨b', o', none⟩ → b' < w8.drew.heap.size) := Lib.hid (fun b' o' e => by have h1 := hAI b' o' e; have h2 := K8.out.size; show b' < w8.heap.size; omega)
            have hg8 := lt_of_block G8.out
            have hw88 := K8.out.size
            go_region_law (first
              | (go_simp; go_at_call 46; have hcl := IH.out w8.drew rb _ c n (q + 1) L lf HS.out HAB2.out (R8.out.below (Below.refl _ _).drew); refine hcl.mono ?_; clear hcl; rintro e wU ⟨kU', uk, um, us, uA, ul, uc, rfl, hres⟩; have HRES2 := Lib.hid hres; have kU : KeepR rb w8 wU := KeepR.trans' (KeepR.of_below' (by repeat' (first | exact Below.refl _ _ | exact Nat.le_refl _ | (refine Below.alloc ?_ ?_ _) | (refine Below.setCell ?_ ?_ _) | (refine Below.drew ?_) | (refine below_drewN ?_ _) | assumption | (simp; done) | (simp; omega)))) kU'; have KU := Lib.hid kU; have TU := Lib.hid ((kU.block tb hz8 HN1.out).trans TT2.out); obtain ⟨z0, z1, z2, z3⟩ := term_cells TU.out; have zf := Lib.frozen_of_heap TU.out 3; have hzU := lt_of_block TU.out; have HRU := Lib.hid ((kU.block row (lt_of_block HR8.out) hrrb).trans HR8.out); clear kU kU' hres)
              | (refine step_kid (by rfl) _ _ (by rfl) (by rfl) (own_move OWN.out ((heap_alloc_lt (lt_of_block HRU.out)).trans (HRU.out.trans HRO.out.symm))) _ 1 1 [.int .i64 uk, .int .i64 um, .string us, .slice uA ul uc] (by rfl) (by first | exact Rd.new _ 4 1 _ _ rfl | exact (Rd.new _ 4 1 _ _ rfl).drew) (by simp [Value.oneCell']) (by omega) ?_; intro v' wV own' gr'; have bW : KeepR row wU wV := (KeepR.of_below' (Below.alloc (Below.refl _ _) (Nat.le_refl _) _)).trans' (grew_row gr'); have TV := Lib.hid ((bW.block tb hzU htrow).trans TU.out); obtain ⟨t0, t1, t2, t3⟩ := term_cells TV.out; have tf := Lib.frozen_of_heap TV.out 3; have hzV := lt_of_block TV.out; obtain ⟨vA2, vc2, rfl, hvc⟩ := own'.slice; have hrow := own_row own' (by omega); have hrdo := Own.rd own'; have hcap := own_cap' own'; have BV := Lib.hid bW; have HLI := Lib.hid gr'.lies; have HVC2 := Lib.hid hvc; have HROW2 := Lib.hid hrow; have HRDO2 := Lib.hid hrdo; have HCAP2 := Lib.hid hcap; have hsr : wU.heap.size < (wU.alloc (.cells #[.int .i64 uk, .int .i64 um, .string us, .slice uA ul uc] 65)).heap.size := (by simp); have HSR2 := Lib.hid hsr; clear own' gr' hvc hrow hrdo hcap hsr))
            all_goals
              obtain ⟨wp, hwp⟩ : ∃ wp, wV.setCell ⟨tb, 3, none⟩ (.slice vA2 2 vc2) = wp := ⟨_, rfl⟩
              obtain ⟨row2, cur2, rfl, _, hrowB⟩ := HROW2.out
              have hgt2 : tb < wU.heap.size := lt_of_block TU.out
              have hsr2 := HSR2.out
              have hli : row2 = row ∨ wU.heap.size < row2 + 1 := (own_lies (A := none) HLI.out).imp id (fun h => by omega)
              have HLI2 := Lib.hid hli
              have hrt2 : row2 ≠ tb := by omega
              have hyz2 := BV.out.size
              have h6y2 := KU.out.size
              have Kp : Hid (KeepR rb w wp) := Lib.hid (by rw [← hwp]; exact set_keep1 (Keep.trans (K8.out.trans' KU.out) BV.out (fun b' h1 _ => by show b' ≠ row; have := HGG.out; omega)) (by have := HGG.out; omega) _ _)
              have GU : Hid (wU.heap[g0]? = some (.cells #[.int .i64 0, .int .i64 0, .string ByteArray.empty, .slice none 0 0] 65 (0, 0))) := Lib.hid ((KU.out.block g0 hg8 hg0r).trans G8.out)
              have Gp : Hid (wp.heap[g0]? = some (.cells #[.int .i64 0, .int .i64 0, .string ByteArray.empty, .slice none 0 0] 65 (0, 0))) := Lib.hid (by rw [← hwp]; exact (Below.heap_setCell wV ⟨tb, 3, none⟩ _ g0 (by show g0 ≠ tb; omega)).trans ((BV.out.block g0 (lt_of_block GU.out) (by show g0 ≠ row; omega)).trans GU.out))
              have Tp : Hid (wp.heap[tb]? = some (.cells #[.int .i64 KD, .int .i64 0, .string ⟨#[]⟩, .slice (some ⟨row2, 0, none⟩) 2 vc2] 65 (0, 0))) := Lib.hid (by rw [← hwp]; have := TV.out; simp [World.setCell, Array.getElem?_modify, this])
              have SP : Hid (∀ bb, bb < wU.heap.size → bb ≠ tb → bb ≠ row → wp.heap[bb]? = wU.heap[bb]?) := Lib.hid (fun bb h1 h2 h3 => by rw [← hwp]; exact (Below.heap_setCell wV ⟨tb, 3, none⟩ _ bb h2).trans (BV.out.block bb h1 h3))
              have HRE2 : wp.heap[row2]? = wV.heap[row2]? := by rw [← hwp]; exact Below.heap_setCell wV ⟨tb, 3, none⟩ _ row2 hrt2
              have HP1 : Hid (wp.heap[row2]? = some (.cells cur2 65 (0, 0))) := Lib.hid (HRE2.trans hrowB)
              have HP2 : Hid (Rd wp 4 (some ⟨row2, 0, none⟩) 2 [.int .i64 tk, .int .i64 tm, .string ts, .slice tA tl tc, .int .i64 uk, .int .i64 um, .string us, .slice uA ul uc]) := Lib.hid (rd_block HRDO2.out HRE2)
              have hps : wp.heap.size = wV.heap.size := by rw [← hwp]; simp
              have SZ2 : Hid (row < w8.heap.size ∧ w8.heap.size ≤ wU.heap.size ∧ wU.heap.size ≤ wp.heap.size ∧ wY.heap.size ≤ w8.heap.size) := Lib.hid ⟨hr8, h6y2, by omega, by have := SZ.out; omega⟩
              have RSP : Hid (∀ (q : Nat) (fc : Int) (fp : Nat), RsAt wU rb (some ⟨b, off, none⟩) c n q L fc fp lf → RsAt wp rb (some ⟨b, off, none⟩) c n q L fc fp lf) := Lib.hid (fun q fc fp hh => by rw [← hwp]; exact (hh.keepS BV.out (by show rb ≠ row; omega) (fun b' o' e => ⟨by show b' ≠ row; have := hAI b' o' e; have := HGG.out; omega, by have := hAI b' o' e; have := HGG.out; omega⟩)).setg HN1.out (fun b' o' e => by have := hAI b' o' e; have := HGG.out; omega) _ _)
              rw [hwp]
              clear hwp x0 x1 x2 x3 z0 z1 z2 z3 zf t0 t1 t2 t3 tf xf HRE2 hrowB
              cases hgg : rdT L n r (q + 1) with
              | bad fc fp =>
                rw [hgg] at HRES2
                obtain ⟨hfc, q2, rq0⟩ := HRES2.out
                have Rp := Lib.hid (RSP.out _ _ _ rq0)
                have HFC := Lib.hid hfc
                have HG2 : Hid (innT L n (rdT L n r) (i + 1) = .bad fc fp) := Lib.hid (by rw [HI3.out, hgg])
                clear rq0 hfc hgg
                go_wp2_with fail
                refine (rs_take2 ⟨#[41]⟩ _ rb _ c n q2 L fc fp lf Rp.out (by decide) HFC.out).mono ?_
                rintro e wx ⟨rfl, br⟩
                have Rs := Lib.hid (Rp.out.below br)
                have Ts : Hid (wx.heap[tb]? = some (.cells #[.int .i64 KD, .int .i64 0, .string ⟨#[]⟩, .slice (some ⟨row2, 0, none⟩) 2 vc2] 65 (0, 0))) := Lib.hid ((br.block tb (lt_of_block Tp.out)).trans Tp.out)
                have Gs : Hid (wx.heap[g0]? = some (.cells #[.int .i64 0, .int .i64 0, .string ByteArray.empty, .slice none 0 0] 65 (0, 0))) := Lib.hid ((br.block g0 (lt_of_block Gp.out)).trans Gp.out)
                have KS : Hid (KeepR rb wp wx) := Lib.hid (KeepR.of_below' br)
                have Ks := Lib.hid (Kp.out.trans' KS.out)
                obtain ⟨x0, x1, x2, x3⟩ := term_cells Ts.out
                have hzr := lt_of_block Ts.out
                clear br
                obtain ⟨v0, v1, v2, v3⟩ := term_cells Gs.out
                have f0 := Lib.frozen_of_heap Gs.out 0
                have f1 := Lib.frozen_of_heap Gs.out 1
                have f2 := Lib.frozen_of_heap Gs.out 2
                have f3 := Lib.frozen_of_heap Gs.out 3
                have hz := lt_of_block Gs.out
                go_wp2_with fail
                obtain ⟨W, hWW⟩ : ∃ W, ((((wx.setCell ⟨g0, 0, none⟩ (.int .i64 KD)).setCell ⟨g0, 1, none⟩ (.int .i64 0)).setCell ⟨g0, 2, none⟩ (.string ⟨#[]⟩)).setCell ⟨g0, 3, none⟩ (.slice (some ⟨row2, 0, none⟩) 2 vc2)) = W := ⟨_, rfl⟩
                have hWg : W.heap[g0]? = some (.cells #[.int .i64 KD, .int .i64 0, .string ⟨#[]⟩, .slice (some ⟨row2, 0, none⟩) 2 vc2] 65 (0, 0)) := by
                  rw [← hWW]
                  exact term_set Gs.out _ _ _ _
                have RW : RsAt W rb (some ⟨b, off, none⟩) c n q2 L fc fp lf := by
                  rw [← hWW]
                  exact (Rs.out).set4 HN0.out HA1.out _ _ _ _
                have KW : KeepR rb w W := by
                  rw [← hWW]
                  exact set_keep4 (Ks.out) (by rw [HGG.out]; exact Nat.le_refl _) _ _ _ _
                obtain ⟨y0, y1, y2, y3⟩ := term_cells hWg
                rw [hWW]
                clear hWg hWW
                refine bodyPost_ret (v := .agg #[.int .i64 KD, .int .i64 0, .string ⟨#[]⟩, .slice (some ⟨row2, 0, none⟩) 2 vc2]) (by simp [results, Tryd.results46, go_sem, y0, y1, y2, y3]) rfl ?_
                rw [HG2.out]
                exact ⟨KW, KD, 0, ⟨#[]⟩, _, 2, vc2, rfl, HFC.out, q2, RW⟩
              | ok y q2 =>
                rw [hgg] at HRES2
                obtain ⟨tof, rq0⟩ := HRES2.out
                have Rp := Lib.hid (RSP.out _ _ _ rq0)
                have TX2 : Hid (TmO wU (Made w8.drew wU) [.int .i64 uk, .int .i64 um, .string us, .slice uA ul uc] y) := Lib.hid tof
                have HI4 : Hid (innT L n (rdT L n r) (i + 1) = closeT L n (.mk KD 0 ⟨#[]⟩ [x, y]) q2) := Lib.hid (by rw [HI3.out, hgg])
                clear rq0 tof hgg
                go_wp2_with fail
                refine (rs_take ⟨#[41]⟩ _ rb _ c n q2 L 0 lf Rp.out (by decide)).mono ?_
                rintro e wx ⟨rfl, kr, hret⟩
                have Ts : Hid (wx.heap[tb]? = some (.cells #[.int .i64 KD, .int .i64 0, .string ⟨#[]⟩, .slice (some ⟨row2, 0, none⟩) 2 vc2] 65 (0, 0))) := Lib.hid ((kr.block tb (lt_of_block Tp.out) HN1.out).trans Tp.out)
                have Gs : Hid (wx.heap[g0]? = some (.cells #[.int .i64 0, .int .i64 0, .string ByteArray.empty, .slice none 0 0] 65 (0, 0))) := Lib.hid ((kr.block g0 (lt_of_block Gp.out) hg0r).trans Gp.out)
                have KS : Hid (KeepR rb wp wx) := Lib.hid (kr)
                have Ks := Lib.hid (Kp.out.trans' KS.out)
                obtain ⟨x0, x1, x2, x3⟩ := term_cells Ts.out
                have hzr := lt_of_block Ts.out
                rcases hret with ⟨hy, rr⟩ | ⟨hno, rr⟩
                · have Rs := Lib.hid rr
                  have HG2 : Hid (innT L n (rdT L n r) (i + 1) = .ok (.mk KD 0 ⟨#[]⟩ [x, y]) (q2 + 1)) := Lib.hid (by rw [HI4.out]; exact closeT_yes hy)
                  clear rr kr hy
                  obtain ⟨v0, v1, v2, v3⟩ := term_cells Gs.out
                  have f0 := Lib.frozen_of_heap Gs.out 0
                  have f1 := Lib.frozen_of_heap Gs.out 1
                  have f2 := Lib.frozen_of_heap Gs.out 2
                  have f3 := Lib.frozen_of_heap Gs.out 3
                  have hz := lt_of_block Gs.out
                  go_wp2_with fail
                  obtain ⟨W, hWW⟩ : ∃ W, ((((wx.setCell ⟨g0, 0, none⟩ (.int .i64 KD)).setCell ⟨g0, 1, none⟩ (.int .i64 0)).setCell ⟨g0, 2, none⟩ (.string ⟨#[]⟩)).setCell ⟨g0, 3, none⟩ (.slice (some ⟨row2, 0, none⟩) 2 vc2)) = W := ⟨_, rfl⟩
                  have hWg : W.heap[g0]? = some (.cells #[.int .i64 KD, .int .i64 0, .string ⟨#[]⟩, .slice (some ⟨row2, 0, none⟩) 2 vc2] 65 (0, 0)) := by
                    rw [← hWW]
                    exact term_set Gs.out _ _ _ _
                  have RW : RsAt W rb (some ⟨b, off, none⟩) c n (q2 + 1) L 0 0 lf := by
                    rw [← hWW]
                    exact (Rs.out).set4 HN0.out HA1.out _ _ _ _
                  have KW : KeepR rb w W := by
                    rw [← hWW]
                    exact set_keep4 (Ks.out) (by rw [HGG.out]; exact Nat.le_refl _) _ _ _ _
                  have TW : TmO W (Made w W) [.int .i64 KD, .int .i64 0, .string ⟨#[]⟩, .slice (some ⟨row2, 0, none⟩) 2 vc2] (.mk KD 0 ⟨#[]⟩ [x, y]) := by
                    have hws : W.heap.size = wx.heap.size := by rw [← hWW]; simp
                    have hks := KS.out.size
                    obtain ⟨h01, h02, h03, h04, h05, h06, h07⟩ := SZ.out
                    obtain ⟨k01, k02, k03, k04⟩ := SZ2.out
                    have hgg0 := HGG.out
                    have hli := HLI2.out
                    have hkeep : ∀ bb, bb < wp.heap.size → bb ≠ g0 → bb ≠ rb → W.heap[bb]? = wp.heap[bb]? := fun bb h1 h2 h3 => by
                      rw [← hWW]
                      exact (set4_block h2).trans (KS.out.block bb h1 h3)
                    have twa : TmO W (Made w5.drew wY) [.int .i64 tk, .int .i64 tm, .string ts, .slice tA tl tc] x := TX.out.keep fun bb hb => by
                      have h1 : w5.heap.size ≤ bb := hb.1
                      have h2 := hb.2
                      exact (hkeep bb (by omega) (by omega) (by omega)).trans ((SP.out bb (by omega) (by omega) (by omega)).trans ((KU.out.block bb (by omega) (by show bb ≠ rb; omega)).trans (S8.out bb h2 (by omega) (by omega))))
                    have twb : TmO W (Made w8.drew wU) [.int .i64 uk, .int .i64 um, .string us, .slice uA ul uc] y := TX2.out.keep fun bb hb => by
                      have h1 : w8.heap.size ≤ bb := hb.1
                      have h2 := hb.2
                      exact (hkeep bb (by omega) (by omega) (by omega)).trans (SP.out bb (by omega) (by omega) (by omega))
                    have hrw := hkeep row2 (by have := lt_of_block HP1.out; omega) (by omega) (by omega)
                    exact TmO.mk' (kids := [x, y]) HKI.out (by unfold i64in; omega) (Nat.zero_le _) HVC2.out HCAP2.out (TmRowO.twoR twa twb (rd_block HP2.out hrw) (hrw.trans HP1.out) ⟨by omega, by have := lt_of_block HP1.out; omega⟩ (fun bb hb => ⟨by have h1 : w5.heap.size ≤ bb := hb.1; omega, by have := hb.2; omega⟩) (fun bb hb => ⟨by have h1 : w8.heap.size ≤ bb := hb.1; omega, by have := hb.2; omega⟩) (fun hb => by have := hb.2; omega) (fun hb => by have h1 : w8.heap.size ≤ row2 := hb.1; have := hb.2; omega) (fun bb h1 h2 => by have h3 := h1.2; have h4 : w8.heap.size ≤ bb := h2.1; omega))
                  obtain ⟨y0, y1, y2, y3⟩ := term_cells hWg
                  rw [hWW]
                  clear hWg hWW
                  refine bodyPost_ret (v := .agg #[.int .i64 KD, .int .i64 0, .string ⟨#[]⟩, .slice (some ⟨row2, 0, none⟩) 2 vc2]) (by simp [results, Tryd.results46, go_sem, y0, y1, y2, y3]) rfl ?_
                  rw [HG2.out]
                  exact ⟨KW, KD, 0, ⟨#[]⟩, _, 2, vc2, rfl, TW, RW⟩
                · have Rs := Lib.hid rr
                  have HG2 : Hid (innT L n (rdT L n r) (i + 1) = .bad 3 (posAt L n q2)) := Lib.hid (by rw [HI4.out]; exact closeT_no hno)
                  clear rr kr hno
                  obtain ⟨v0, v1, v2, v3⟩ := term_cells Gs.out
                  have f0 := Lib.frozen_of_heap Gs.out 0
                  have f1 := Lib.frozen_of_heap Gs.out 1
                  have f2 := Lib.frozen_of_heap Gs.out 2
                  have f3 := Lib.frozen_of_heap Gs.out 3
                  have hz := lt_of_block Gs.out
                  go_wp2_with fail
                  obtain ⟨W, hWW⟩ : ∃ W, ((((wx.setCell ⟨g0, 0, none⟩ (.int .i64 KD)).setCell ⟨g0, 1, none⟩ (.int .i64 0)).setCell ⟨g0, 2, none⟩ (.string ⟨#[]⟩)).setCell ⟨g0, 3, none⟩ (.slice (some ⟨row2, 0, none⟩) 2 vc2)) = W := ⟨_, rfl⟩
                  have hWg : W.heap[g0]? = some (.cells #[.int .i64 KD, .int .i64 0, .string ⟨#[]⟩, .slice (some ⟨row2, 0, none⟩) 2 vc2] 65 (0, 0)) := by
                    rw [← hWW]
                    exact term_set Gs.out _ _ _ _
                  have RW : RsAt W rb (some ⟨b, off, none⟩) c n q2 L 3 (posAt L n q2) lf := by
                    rw [← hWW]
                    exact (Rs.out).set4 HN0.out HA1.out _ _ _ _
                  have KW : KeepR rb w W := by
                    rw [← hWW]
                    exact set_keep4 (Ks.out) (by rw [HGG.out]; exact Nat.le_refl _) _ _ _ _
                  obtain ⟨y0, y1, y2, y3⟩ := term_cells hWg
                  rw [hWW]
                  clear hWg hWW
                  refine bodyPost_ret (v := .agg #[.int .i64 KD, .int .i64 0, .string ⟨#[]⟩, .slice (some ⟨row2, 0, none⟩) 2 vc2]) (by simp [results, Tryd.results46, go_sem, y0, y1, y2, y3]) rfl ?_
                  rw [HG2.out]
                  exact ⟨KW, KD, 0, ⟨#[]⟩, _, 2, vc2, rfl, by decide, q2, RW⟩--@@
theorem rs_term_of (r : Nat) (hr : r ≤ 6) (ih : ∀ k, r = k + 1 → TsC k) : TsC r := by
  intro w rb A c n i L lf hs hA h
  by_cases hk : (sgAt L i).k = 2
  · exact rs_term_num _ _ w rb A c n i L lf hs hA h hk (by cases r <;> rw [rdT] <;> exact leafT_num hk)
  cases hn : nmB L i with
  | true => exact rs_term_var _ _ w rb A c n i L lf hs hA h hn (by cases r <;> rw [rdT] <;> exact leafT_var hk hn)
  | false =>
    by_cases hp : tx L i = ⟨#[40]⟩
    · cases r with
      | zero => exact rs_term_deep _ _ w rb A c n i L lf hs hA h (by decide) hk hn hp (by rw [rdT]; exact leafT_in hk hn hp)
      | succ r =>
        by_cases hq : tx L (i + 1) = ⟨#[110, 111, 116]⟩
        · exact rs_term_not r (ih r rfl) _ _ w rb A c n i L lf hs hA h (by omega) (by omega) hk hn hp hq (by rw [rdT]; exact leafT_in hk hn hp)
        · exact rs_term_two r (ih r rfl) _ _ w rb A c n i L lf hs hA h (by omega) (by omega) hk hn hp hq (by rw [rdT]; exact leafT_in hk hn hp)
    · have hb := leafT_bad (n := n) (i := i) (L := L) (g := Got.bad 4 (posAt L n i)) hk hn hp
      by_cases hlt : i < L.length
      · exact rs_term_bad_at _ _ w rb A c n i L lf hs hA h (by omega) hlt hk hn hp (by cases r <;> rw [rdT] <;> exact leafT_bad hk hn hp)
      · exact rs_term_bad_end _ _ w rb A c n i L lf hs hA h (by omega) hlt hk hn hp (by cases r <;> rw [rdT] <;> exact leafT_bad hk hn hp)
/-- the reference's reader of terms -/
theorem rs_term_all (r : Nat) : r ≤ 6 → TsC r := by
  induction r with
  | zero => intro h; exact rs_term_of 0 h (fun k e => by omega)
  | succ r ih => intro h; exact rs_term_of (r + 1) h (fun k e => by
      have : k = r := by omega
      subst this
      exact ih (by omega))
end Go.Proofs.YtdanlgmpgdipnaaDoor
