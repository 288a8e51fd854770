/- Lemmas for the row. -/
import Derived.Test.YtnmblfonmfjoeaaGreatDoorKc14
namespace Go.Proofs.YtnmblfonmfjoeaaGreatDoor
open Go.RowKit
set_option maxHeartbeats 6400000
set_option maxRecDepth 100000
set_option linter.unusedVariables false
theorem es_k1 {x2 x3 : Value} (l : List St) (ih : ∀ g ∈ l, ∀ k s t b e, g = .mk k s t b e → EsC b ∧ EsC e) (A : Option Addr) (c : Nat) (w wP : World) (eb : Nat) (pg : Pg) (gA lA pA : Option Addr) (gc lc pc : Nat) (Ai : Option Addr) (ni ci : Nat) (cur : List Ic) (base : Nat) (Z : Nat → Prop)
  (row : StRow (Fz base Z eb) w A l) (hl : l.length ≤ c) (hc : c ≤ maxLen) (hkd : kdSs l) (htot : totGs l ≤ 1048577) (hsz : cur.length + 2 * snodess l ≤ 100000)
  (hpg : PgIs wP ⟨gA, gc, lA, lc, pA, pc⟩ pg) (hbp : Below wP.heap.size wP w) (hPe : wP.heap.size ≤ eb) (henv : pg.globals.length ≤ 1000 ∧ pg.locks.length ≤ 1000 ∧ (pnames pg.procs).length ≤ 1000)
  (heb : eb < base) (hbase : base ≤ w.heap.size) (hZ : ∀ b, Z b → b < w.heap.size) (HLI : Hid (cur.length = ni))
  (j : Nat) (hlt : j < l.length) (wr : World) (hrel : EsJ w wr eb pg gA lA pA gc lc pc ni cur base Z l j)
  (hkn : ∀ k s t b e, l[j] = .mk k s t b e → k = 1) (Q : Exit → Act → World → Prop) (hQ : ∀ a' w', EsFr (.pointer (some ⟨eb, 0, none⟩)) (.slice A l.length c) x2 x3 (.int .i64 ((j : Int) + 1)) a' → EsJ w w' eb pg gA lA pA gc lc pc ni cur base Z l (j + 1) → Q .normal a' w') : ∀ a, EsFr (.pointer (some ⟨eb, 0, none⟩)) (.slice A l.length c) x2 x3 (.int .i64 (j : Int)) a → Code.wp Tryz.prog esBody Q a wr := by
 have IH := qh ih
 have RW := qh row
 have KDS := qh hkd
 have HPG := qh hpg
 have HBP := qh hbp
 have HEB := qh henv
 have HZ := qh hZ
 have HQ := qh hQ
 unfold maxLen at hc
 have hwPw := hbp.size
 clear ih row hkd hpg hbp henv hZ hQ
 obtain ⟨A0, n0, c0, cu0, hcj, hkbx, hgr, hkp⟩ := hrel
 have CJ := qh hcj
 have KPR := qh hkp
 have KBR := qh hkbx
 have GRR := qh hgr
 have HL0 : Hid (cu0.length = n0) := qh (by obtain ⟨_, _, e, _, _⟩ := hgr.slice; injection e with _ e; exact e.symm)
 have hwsz := hkp.size
 have hroom : n0 + 2 * snodes l[j] ≤ 100000 := by
  have h1 := emSs_here (envP pg) ni l j hlt
  have h2 := HL0.out
  rw [hcj, List.length_append] at h2
  omega
 obtain ⟨b, off, x, rfl, hFb, ⟨d0, d1, d2, d3, d4, d5, d6, d7⟩, hst⟩ := rd_stmt (RW.out.keep (keep_cell hkp) (fun _ _ h => h)) hlt
 have hk1 := kdSs_mem KDS.out (List.getElem_mem hlt)
 have htg := totGs_ltE (List.getElem_mem hlt)
 have hkn' := hkn
 have hih := IH.out _ (List.getElem_mem hlt)
 generalize hG : l[j] = gj at hroom hst hk1 htg hih hkn'
 obtain ⟨xk, xs, tk, tn, ts, tA, tm, tc, bA, bm, bc, oA, om, oc⟩ := x
 obtain ⟨t, body, els, rfl, hki, hxs, htm, hbm, hb1, hb2, rowb, hem, he1, he2, rowe⟩ := hst.inv
 simp only at d0 d1 d2 d3 d4 d5 d6 d7 hki hxs htm hbm hb1 hb2 rowb hem he1 he2 rowe hG hroom hk1 htg hih
 clear hkn
 subst hbm hem
 have HG := qh hG
 rw [kdT] at hk1
 rw [totG] at htg
 rw [snodes] at hroom
 obtain ⟨hx1, hx8, hkdb, hkde⟩ := hk1
 obtain ⟨ihb, ihe⟩ := hih _ _ _ _ _ rfl
 have IHB := qh ihb
 have IHE := qh ihe
 have KDB := qh hkdb
 have KDE := qh hkde
 have HTB : Hid (totGs body ≤ 1048576) := qh (by omega)
 have HTE : Hid (totGs els ≤ 1048576) := qh (by omega)
 have HTT : Hid (totT t ≤ 1048576) := qh (by omega)
 have TMR := qh htm
 have RBR := qh rowb
 have RER := qh rowe
 clear hst hih hG hki hxs htm rowb rowe hkdb hkde ihb ihe htg hcj
 have hlb := cell_lt d0
 obtain ⟨sb, hsb⟩ : ∃ sb, wr.heap.size = sb := ⟨_, rfl⟩
 obtain ⟨Zs, hZsZ, hZsb, hZsi⟩ : ∃ Zs : Nat → Prop, (∀ b, Z b → Zs b) ∧ Zs sb ∧ ∀ b, Zs b → Z b ∨ b = sb := ⟨fun b => Z b ∨ b = sb, fun b h => .inl h, .inr rfl, fun b h => h⟩
 have hnsk : ¬ sb = eb := by omega
 have hnks : ¬ eb = sb := by omega
 obtain ⟨u0, hu0⟩ : ∃ u0, wr.alloc (.cells #[.int .i64 xk, .string xs, .int .i64 tk, .int .i64 tn, .string ts, .slice tA tm tc, .slice bA body.length bc, .slice oA els.length oc] 71) = u0 := ⟨_, rfl⟩
 have B0 : Hid (Below wr.heap.size wr u0) := qh (by rw [← hu0]; exact Below.alloc (Below.refl _ _) (Nat.le_refl _) _)
 have SB0 : Hid (u0.heap[sb]? = some (.cells #[.int .i64 xk, .string xs, .int .i64 tk, .int .i64 tn, .string ts, .slice tA tm tc, .slice bA body.length bc, .slice oA els.length oc] 71 (0, 0))) := qh (by rw [← hsb, ← hu0]; exact heap_alloc_new _ _)
 have KB0 := qh ((B0.out.block eb (lt_of_block KBR.out)).trans KBR.out)
 have GR0 : Hid (GrwI base Zs u0 (.slice A0 n0 c0) cu0) := qh ((GRR.out.zsub (fun b _ h2 h => (hZsi b h).elim id (fun e => by omega))).below IcP.keepP B0.out)
 have KP0 : Hid (Keep (Fz base Zs eb) u0 u0) := qh (Keep.refl _ _)
 have HZS0 : Hid (∀ b, Zs b → b < u0.heap.size) := qh (fun b h => by
  have h1 := lt_of_block SB0.out
  rcases hZsi b h with h | h
  ·have := HZ.out b h; have := B0.out.size; omega
  ·omega)
 have hz0 : wr.heap.size ≤ u0.heap.size := B0.out.size
 have hfz : ∀ b, b < wr.heap.size → Fz base Z eb b → Fz base Zs eb b := fun b _ h => ⟨h.1, h.2.imp id (hZsZ b)⟩
 have KW : Hid (Keep (Fz base Z eb) w u0) := qh (KPR.out.trans (Keep.of_below (S := Fz base Z eb) B0.out) (fun _ _ h => h))
 have BP0 : Hid (Below wP.heap.size wP u0) := qh (below_kp HBP.out KW.out (by omega) (fun b hb => ⟨by omega, .inl (by omega)⟩))
 have hPz : wP.heap.size ≤ u0.heap.size := by omega
 have hPS : ∀ b, b < wP.heap.size → Fz base Zs eb b := fun b hb => ⟨by omega, .inl (by omega)⟩
 have TM0 := qh (TMR.out.keep (keep_cell (Keep.of_below (S := Fz base Z eb) B0.out)) (F' := Fz base Zs eb) (fun b hb h => hfz b hb h))
 have RB0 := qh (RBR.out.keep (keep_cell (Keep.of_below (S := Fz base Z eb) B0.out)) (F' := Fz base Zs eb) (fun b hb h => hfz b hb h))
 have RE0 := qh (RER.out.keep (keep_cell (Keep.of_below (S := Fz base Z eb) B0.out)) (F' := Fz base Zs eb) (fun b hb h => hfz b hb h))
 clear KBR GRR TMR RBR RER hfz
 obtain rfl : xk = 1 := hkn' _ _ _ _ _ rfl
 clear hkn'
 refine EsFr.all ?_
 intros
 conv => arg 2; whnf
 obtain ⟨k00, k01, k02, k03, f03⟩ := box4 KB0.out
 obtain ⟨s00, s01, s02, s03, s04, s05, s06, s07⟩ := cells8 SB0.out
 have hk0 := lt_of_block KB0.out
 have hs0 := lt_of_block SB0.out
 have BD0 : Hid (Below u0.heap.size u0 u0.drew) := qh (Below.refl _ _).drew
 have PGR0 := qh (HPG.out.belowA (below_kp BP0.out KP0.out hPz hPS))
 have PGD0 := qh (PGR0.out.belowA BD0.out)
 have TMD0 := qh ((TM0.out.keep (keep_cell KP0.out) (fun _ _ h => h)).any.belowA BD0.out)
 go_upto_region 6 with fail
 go_region_held3 (fun w' => w'.cell? ⟨eb, 0, none⟩ = some (.slice gA pg.globals.length gc) ∧ w'.cell? ⟨eb, 1, none⟩ = some (.slice lA pg.locks.length lc) ∧ w'.cell? ⟨eb, 2, none⟩ = some (.slice pA pg.procs.length pc) ∧ w'.cell? ⟨sb, 1, none⟩ = some (.string xs) ∧ w'.cell? ⟨sb, 2, none⟩ = some (.int .i64 tk) ∧ w'.cell? ⟨sb, 3, none⟩ = some (.int .i64 tn) ∧ w'.cell? ⟨sb, 4, none⟩ = some (.string ts) ∧ w'.cell? ⟨sb, 5, none⟩ = some (.slice tA tm tc) ∧ eb < w'.heap.size ∧ sb < w'.heap.size)
  (first | (with_reducible assumption) | exact spE_of KB0.out SB0.out | exact spE_of KB1.out SB1.out | exact spE_of KY0.out SY0.out)
  (first
   | (go_simp; go_at_call 55; have hcl := spec_PlaceOf (.slice gA pg.globals.length gc) pg.globals xs _ (by first | exact PGD0.out.gs | exact PGY0.out.gs); refine hcl.mono ?_; clear hcl; rintro e w' ⟨rfl, rfl⟩)
   | (go_simp; go_at_call 56; have hcl := spec_l03Copy t tk tn ts tA tm tc u0.drew TMD0.out HTT.out; refine hcl.mono ?_; clear hcl; rintro e wY0 ⟨k2, m2, s2, A2, q2, c2, rfl, ht2, b2⟩; have T2 := qh ht2; have BY0 : Hid (Below u0.heap.size u0 wY0) := qh (below_then BD0.out b2); have KY0 := qh ((BY0.out.block eb hk0).trans KB0.out); have SY0 := qh ((BY0.out.block sb hs0).trans SB0.out); have hky := lt_of_block KY0.out; have hsy := lt_of_block SY0.out; have PGY0 := qh (PGR0.out.belowA (by first | exact BY0.out | exact BY0.out)); clear ht2 b2)
   | (go_simp; go_at_call 22; have hcl := spec_l08Put u0 wY0 eb gA lA pA A0 A2 pg.globals.length gc pg.locks.length lc pg.procs.length pc n0 c0 q2 c2 1 (placeS pg.globals xs) k2 m2 0 s2 cu0 ⟨1, (placeS pg.globals xs), t, 0⟩ base Zs (Made u0.drew wY0) BY0.out KB0.out GR0.out heb (by omega) HZS0.out (icP_term 1 (placeS pg.globals xs) (i64_of (by omega) (by omega)) (placeS_in _ _ (by have := HEB.out; omega)) T2.out) (fun b hb => hb) (by omega); refine hcl.mono ?_; clear hcl; rintro e u1 ⟨rfl, A1, n1, c1, hkb1, hn1, hgr1, kp1⟩; have KB1 := qh hkb1; have HN1 := qh hn1; have GRa1 := qh hgr1; have KPa1 := qh kp1; have SB1 := qh ((kp1.block sb hs0 ⟨hnsk, .inr hZsb⟩).trans SB0.out); clear hkb1 hn1 hgr1 kp1))
 all_goals
  clear k00 k01 k02 k03 f03 s00 s01 s02 s03 s04 s05 s06 s07 hk0 hs0
  obtain ⟨cu1, hcu1⟩ : ∃ cu, cu0 ++ [⟨1, (placeS pg.globals xs), t, 0⟩] = cu := ⟨_, rfl⟩
  have HC1 := qh hcu1
  have GR1 : Hid (GrwI base Zs u1 (.slice A1 n1 c1) cu1) := qh (by rw [← hcu1]; exact GRa1.out)
  have HL1 : Hid (cu1.length = n1) := qh (by rw [← hcu1, HN1.out, ← HL0.out]; simp)
  have KP1 := qh (KP0.out.trans KPa1.out (fun _ _ h => h))
  have hu1z : u0.heap.size ≤ u1.heap.size := KP1.out.size
  have HZS1 : Hid (∀ b, Zs b → b < u1.heap.size) := qh (fun b hb => Nat.lt_of_lt_of_le (HZS0.out b hb) hu1z)
  have hub1 : n1 ≤ n0 + 1 := Nat.le_of_eq HN1.out
  have hlw1 : n0 + 1 ≤ n1 := Nat.le_of_eq HN1.out.symm
  clear hcu1 GRa1 KPa1
  go_wp2_with fail
  have hfin : cu1 = cu0 ++ emT (envP pg) n0 (.mk 1 xs t body els) := by
   rw [← HC1.out, emT_one _ _ _ _ _ _ _ (by decide) (by decide)]; rfl
  refine HQ.out _ _ EsFr.mk ⟨A1, n1, c1, cu1, ?_, KB1.out, GR1.out.zsub (fun b _ _ h => hZsZ b h), (KPR.out.trans (Keep.of_below (S := Fz base Z eb) B0.out) (fun _ _ h => h)).trans (KP1.out.mono (fun b _ h => ⟨h.1, h.2.imp id (hZsZ b)⟩)) (fun _ _ h => h)⟩
  rw [List.take_succ_eq_append_getElem hlt, HG.out, emSs_snoc, ← List.append_assoc, ← CJ.out, hfin]
  have h1 : ni + (emSs (envP pg) ni (l.take j)).length = n0 := by have h2 := HL0.out; rw [CJ.out, List.length_append, HLI.out] at h2; exact h2
  rw [h1]
theorem es_if0 {x1 x2 x3 x4 : Value} (tk tn : Int) (xs ts : ByteArray) (tA bA oA : Option Addr) (tm tc bc oc : Nat) (t : Tm) (body els : List St) (eb sb : Nat) (pg : Pg) (gA lA pA : Option Addr) (gc lc pc : Nat) (base : Nat) (Zs : Nat → Prop) (heb : eb < base) (hnsk : ¬ sb = eb) (hnks : ¬ eb = sb) (hZsb : Zs sb)
  (u0 u2 : World) (n0 n1 n2 c2 : Nat) (A2 : Option Addr) (cu0 cu1 cu2 : List Ic) (hbz : base ≤ u0.heap.size) (HZS0 : Hid (∀ b, Zs b → b < u0.heap.size)) (hs2 : sb < u2.heap.size)
  (HL0 : Hid (cu0.length = n0)) (HC1 : Hid (cu0 ++ [⟨2, 0, t, 0⟩] = cu1)) (HL1 : Hid (cu1.length = n1)) (HC2 : Hid (cu2 = cu1 ++ emSs (envP pg) n1 body)) (HL2 : Hid (cu2.length = n2))
  (hroom : n2 + 2 * snodess els ≤ 100000 + 100000) (hroom1 : n2 + 2 * snodess els + 1 ≤ 100000) (h02 : n0 < n2)
  (KB2 : Hid (u2.heap[eb]? = some (.cells #[.slice gA pg.globals.length gc, .slice lA pg.locks.length lc, .slice pA pg.procs.length pc, .slice A2 n2 c2] 56 (0, 0)))) (SB2 : Hid (u2.heap[sb]? = some (.cells #[.int .i64 2, .string xs, .int .i64 tk, .int .i64 tn, .string ts, .slice tA tm tc, .slice bA body.length bc, .slice oA els.length oc] 71 (0, 0)))) (GR2 : Hid (GrwI base Zs u2 (.slice A2 n2 c2) cu2)) (KP2 : Hid (Keep (Fz base Zs eb) u0 u2))
  (h0e : Hid (els.length = 0)) : ∀ a, EsF2 (.pointer (some ⟨eb, 0, none⟩)) x1 x2 x3 x4 (.pointer (some ⟨sb, 0, none⟩)) (.int .i64 (n0 : Int)) (.bool (decide (0 < els.length))) a → Code.wp Tryz.prog esIf (fun e a' w' => e = .normal ∧ EsFr (.pointer (some ⟨eb, 0, none⟩)) x1 x2 x3 x4 a' ∧ IfE u0 w' xs tk tn ts tA bA oA tm tc bc oc t body els eb sb pg gA lA pA gc lc pc base Zs n0 cu0) a u2 := by
 rw [show decide (0 < els.length) = false from decide_eq_false (by have := h0e.out; omega)]
 refine EsF2.all ?_
 intros
 conv => arg 2; whnf
 have hu2z : u0.heap.size ≤ u2.heap.size := KP2.out.size
 have HZS2 : Hid (∀ b, Zs b → b < u2.heap.size) := qh (fun b hb => Nat.lt_of_lt_of_le (HZS0.out b hb) hu2z)
 obtain ⟨k20, k21, k22, k23, f23⟩ := box4 KB2.out
 obtain ⟨s20, s21, s22, s23, s24, s25, s26, s27⟩ := cells8 SB2.out
 have hk2 := lt_of_block KB2.out
 have hs2 := lt_of_block SB2.out
 have hat2 : n0 < cu2.length := by have := HL2.out; omega
 obtain ⟨-, ob2, hob2, hol2, hobb2, hoz2, hof2, ⟨old2, hoc2⟩, hto2⟩ := grwi_to GR2.out hat2
 have HTO2 := qh (hto2 (n2 : Int) (by unfold i64in; omega))
 have HOZ2 := qh hoz2
 have HAT2 := qh hat2
 have hof6 := hof2 (n0 * 7 + 6)
 have hn6 : (n0 : Int) < (n2 : Int) := by have := HL2.out; omega
 have hn0 : (0 : Int) ≤ (n0 : Int) := by omega
 subst hob2
 clear hto2 hoz2 hof2
 have hobk : eb ≠ ob2 := by omega
 have hobk' : ob2 ≠ eb := by omega
 go_upto_region 30 with fail
 go_region_held3 (fun w' => w'.cell? ⟨eb, 3, none⟩ = some (.slice (some ⟨ob2, 0, none⟩) n2 c2) ∧ eb < w'.heap.size)
  (first | (with_reducible assumption) | exact ⟨k23, hk2⟩ | exact ⟨(World.cell?_setCell_other _ _ _ _ (by simp [hobk, hobk'])).trans k23, by simpa using hk2⟩)
  (first | fail)
 obtain ⟨u3, hu3⟩ : ∃ u, (u2.setCell ⟨ob2, n0 * 7 + 6, none⟩ (.int .i64 (n2 : Int))).drew = u := ⟨_, rfl⟩
 have hkq : ∀ b, b ≠ ob2 → u3.heap[b]? = u2.heap[b]? := fun b hb => by rw [← hu3]; exact Below.heap_setCell u2 ⟨ob2, n0 * 7 + 6, none⟩ _ b hb
 have hobs : sb ≠ ob2 := fun e => HOZ2.out (by rw [← e]; exact hZsb)
 have KB3 := qh ((hkq eb hobk).trans KB2.out)
 have SB3 := qh ((hkq sb hobs).trans SB2.out)
 obtain ⟨cu3, hcu3⟩ : ∃ cu, cu2.set n0 ⟨(cu2[n0]'HAT2.out).op, (cu2[n0]'HAT2.out).arg, (cu2[n0]'HAT2.out).term, (n2 : Int)⟩ = cu := ⟨_, rfl⟩
 have HC3 := qh hcu3
 have HL3 : Hid (cu3.length = n2) := qh (by rw [← hcu3, List.length_set]; exact HL2.out)
 have GR3 : Hid (GrwI base Zs u3 (.slice (some ⟨ob2, 0, none⟩) n2 c2) cu3) := qh (by
  rw [← hcu3, ← hu3]
  exact GrwX.below IcP.keepP HTO2.out (Below.refl _ _).drew)
 have KP3 : Hid (Keep (Fz base Zs eb) u0 u3) := qh (by
  rw [← hu3]
  exact (KP2.out.setCell (p := ⟨ob2, n0 * 7 + 6, none⟩) (fun h => h.2.elim (fun h => absurd (show ob2 < base from h) (by omega)) HOZ2.out) _).trans (Keep.of_below (S := Fz base Zs eb) (Below.refl _ _).drew) (fun _ _ h => h))
 rw [hu3]
 have hu3z : u0.heap.size ≤ u3.heap.size := KP3.out.size
 have HZS3 : Hid (∀ b, Zs b → b < u3.heap.size) := qh (fun b hb => Nat.lt_of_lt_of_le (HZS0.out b hb) hu3z)
 clear k20 k21 k22 k23 f23 s20 s21 s22 s23 s24 s25 s26 s27 hk2 hs2
 clear hol2 hobb2 hoc2 hof6 hn6 hn0 hkq hobk hobk' hobs hu3 hcu3
 go_wp2_with fail
 have hfin := if0_fin (s := xs) h0e.out HL0.out HC1.out HL1.out HC2.out HL2.out HAT2.out HC3.out
 exact ⟨EsFr.mk, (some ⟨ob2, 0, none⟩), n2, c2, cu3, hfin, KB3.out, SB3.out, GR3.out, KP3.out⟩
theorem es_if1 {x1 x2 x3 x4 : Value} (tk tn : Int) (xs ts : ByteArray) (tA bA oA : Option Addr) (tm tc bc oc : Nat) (t : Tm) (body els : List St) (eb sb : Nat) (pg : Pg) (gA lA pA : Option Addr) (gc lc pc : Nat) (base : Nat) (Zs : Nat → Prop) (heb : eb < base) (hnsk : ¬ sb = eb) (hnks : ¬ eb = sb) (hZsb : Zs sb)
  (u0 u2 : World) (n0 n1 n2 c2 : Nat) (A2 : Option Addr) (cu0 cu1 cu2 : List Ic) (hbz : base ≤ u0.heap.size) (HZS0 : Hid (∀ b, Zs b → b < u0.heap.size)) (hs2 : sb < u2.heap.size)
  (HL0 : Hid (cu0.length = n0)) (HC1 : Hid (cu0 ++ [⟨2, 0, t, 0⟩] = cu1)) (HL1 : Hid (cu1.length = n1)) (HC2 : Hid (cu2 = cu1 ++ emSs (envP pg) n1 body)) (HL2 : Hid (cu2.length = n2))
  (hroom : n2 + 2 * snodess els ≤ 100000 + 100000) (hroom1 : n2 + 2 * snodess els + 1 ≤ 100000) (h02 : n0 < n2)
  (KB2 : Hid (u2.heap[eb]? = some (.cells #[.slice gA pg.globals.length gc, .slice lA pg.locks.length lc, .slice pA pg.procs.length pc, .slice A2 n2 c2] 56 (0, 0)))) (SB2 : Hid (u2.heap[sb]? = some (.cells #[.int .i64 2, .string xs, .int .i64 tk, .int .i64 tn, .string ts, .slice tA tm tc, .slice bA body.length bc, .slice oA els.length oc] 71 (0, 0)))) (GR2 : Hid (GrwI base Zs u2 (.slice A2 n2 c2) cu2)) (KP2 : Hid (Keep (Fz base Zs eb) u0 u2))
  (h0e : Hid (¬ els.length = 0)) (IHE : Hid (EsC els)) (RE0 : Hid (StRow (Fz base Zs eb) u0 oA els)) (he1 : els.length ≤ oc) (he2 : oc ≤ maxLen) (KDE : Hid (kdSs els)) (HTE : Hid (totGs els ≤ 1048576))
  (wP : World) (HPG : Hid (PgIs wP ⟨gA, gc, lA, lc, pA, pc⟩ pg)) (BP0 : Hid (Below wP.heap.size wP u0)) (hPe : wP.heap.size ≤ eb) (hPz : wP.heap.size ≤ u0.heap.size) (hPS : ∀ b, b < wP.heap.size → Fz base Zs eb b) (HEB : Hid (pg.globals.length ≤ 1000 ∧ pg.locks.length ≤ 1000 ∧ (pnames pg.procs).length ≤ 1000)) : ∀ a, EsF2 (.pointer (some ⟨eb, 0, none⟩)) x1 x2 x3 x4 (.pointer (some ⟨sb, 0, none⟩)) (.int .i64 (n0 : Int)) (.bool (decide (0 < els.length))) a → Code.wp Tryz.prog esIf (fun e a' w' => e = .normal ∧ EsFr (.pointer (some ⟨eb, 0, none⟩)) x1 x2 x3 x4 a' ∧ IfE u0 w' xs tk tn ts tA bA oA tm tc bc oc t body els eb sb pg gA lA pA gc lc pc base Zs n0 cu0) a u2 := by
 rw [show decide (0 < els.length) = true from decide_eq_true (by have := h0e.out; omega)]
 refine EsF2.all ?_
 intros
 conv => arg 2; whnf
 have hu2z : u0.heap.size ≤ u2.heap.size := KP2.out.size
 have HZS2 : Hid (∀ b, Zs b → b < u2.heap.size) := qh (fun b hb => Nat.lt_of_lt_of_le (HZS0.out b hb) hu2z)
 obtain ⟨k20, k21, k22, k23, f23⟩ := box4 KB2.out
 obtain ⟨s20, s21, s22, s23, s24, s25, s26, s27⟩ := cells8 SB2.out
 have hk2 := lt_of_block KB2.out
 have hs2 := lt_of_block SB2.out
 go_wp2_with fail
 have hcl := spec_l08Put u2 u2 eb gA lA pA A2 none pg.globals.length gc pg.locks.length lc pg.procs.length pc n2 c2 0 0 3 0 0 0 0 ⟨#[]⟩ cu2 ⟨3, 0, zeroTm, 0⟩ base Zs NoB (Below.refl _ _) KB2.out GR2.out heb (by omega) HZS2.out (icP_zero _ 3 0 0 (i64_of (by omega) (by omega)) (i64_of (by omega) (by omega)) (i64_of (by omega) (by omega))) (fun b hb => hb.elim) (by omega)
 refine hcl.mono ?_
 clear hcl
 rintro e u3 ⟨rfl, A3, n3, c3, hkb3, hn3, hgr3, kp3⟩
 have KB3 := qh hkb3
 have HN3 := qh hn3
 have GRa3 := qh hgr3
 have KPa3 := qh kp3
 have SB3 := qh ((kp3.block sb hs2 ⟨hnsk, .inr hZsb⟩).trans SB2.out)
 clear hkb3 hn3 hgr3 kp3
 clear k20 k21 k22 k23 f23 s20 s21 s22 s23 s24 s25 s26 s27 hk2 hs2
 obtain ⟨cu3, hcu3⟩ : ∃ cu, cu2 ++ [⟨3, 0, zeroTm, 0⟩] = cu := ⟨_, rfl⟩
 have HC3 := qh hcu3
 have GR3 : Hid (GrwI base Zs u3 (.slice A3 n3 c3) cu3) := qh (by rw [← hcu3]; exact GRa3.out)
 have HL3 : Hid (cu3.length = n3) := qh (by rw [← hcu3, HN3.out, ← HL2.out]; simp)
 have KP3 := qh (KP2.out.trans KPa3.out (fun _ _ h => h))
 have hu3z : u0.heap.size ≤ u3.heap.size := KP3.out.size
 have HZS3 : Hid (∀ b, Zs b → b < u3.heap.size) := qh (fun b hb => Nat.lt_of_lt_of_le (HZS0.out b hb) hu3z)
 have hub3 : n3 ≤ n2 + 1 := Nat.le_of_eq HN3.out
 have hlw3 : n2 + 1 ≤ n3 := Nat.le_of_eq HN3.out.symm
 clear hcu3 GRa3 KPa3
 obtain ⟨k30, k31, k32, k33, f33⟩ := box4 KB3.out
 obtain ⟨s30, s31, s32, s33, s34, s35, s36, s37⟩ := cells8 SB3.out
 have hk3 := lt_of_block KB3.out
 have hs3 := lt_of_block SB3.out
 have hat3 : n0 < cu3.length := by have := HL3.out; omega
 obtain ⟨-, ob3, hob3, hol3, hobb3, hoz3, hof3, ⟨old3, hoc3⟩, hto3⟩ := grwi_to GR3.out hat3
 have HTO3 := qh (hto3 (n3 : Int) (by unfold i64in; omega))
 have HOZ3 := qh hoz3
 have HAT3 := qh hat3
 have hof6 := hof3 (n0 * 7 + 6)
 have hn6 : (n0 : Int) < (n3 : Int) := by have := HL3.out; omega
 have hn0 : (0 : Int) ≤ (n0 : Int) := by omega
 subst hob3
 clear hto3 hoz3 hof3
 have hobk : eb ≠ ob3 := by omega
 have hobk' : ob3 ≠ eb := by omega
 go_upto_region 27 with fail
 go_region_held3 (fun w' => w'.cell? ⟨eb, 3, none⟩ = some (.slice (some ⟨ob3, 0, none⟩) n3 c3) ∧ eb < w'.heap.size)
  (first | (with_reducible assumption) | exact ⟨k33, hk3⟩ | exact ⟨(World.cell?_setCell_other _ _ _ _ (by simp [hobk, hobk'])).trans k33, by simpa using hk3⟩)
  (first | fail)
 obtain ⟨u4, hu4⟩ : ∃ u, (u3.setCell ⟨ob3, n0 * 7 + 6, none⟩ (.int .i64 (n3 : Int))).drew = u := ⟨_, rfl⟩
 have hkq : ∀ b, b ≠ ob3 → u4.heap[b]? = u3.heap[b]? := fun b hb => by rw [← hu4]; exact Below.heap_setCell u3 ⟨ob3, n0 * 7 + 6, none⟩ _ b hb
 have hobs : sb ≠ ob3 := fun e => HOZ3.out (by rw [← e]; exact hZsb)
 have KB4 := qh ((hkq eb hobk).trans KB3.out)
 have SB4 := qh ((hkq sb hobs).trans SB3.out)
 obtain ⟨cu4, hcu4⟩ : ∃ cu, cu3.set n0 ⟨(cu3[n0]'HAT3.out).op, (cu3[n0]'HAT3.out).arg, (cu3[n0]'HAT3.out).term, (n3 : Int)⟩ = cu := ⟨_, rfl⟩
 have HC4 := qh hcu4
 have HL4 : Hid (cu4.length = n3) := qh (by rw [← hcu4, List.length_set]; exact HL3.out)
 have GR4 : Hid (GrwI base Zs u4 (.slice (some ⟨ob3, 0, none⟩) n3 c3) cu4) := qh (by
  rw [← hcu4, ← hu4]
  exact GrwX.below IcP.keepP HTO3.out (Below.refl _ _).drew)
 have KP4 : Hid (Keep (Fz base Zs eb) u0 u4) := qh (by
  rw [← hu4]
  exact (KP3.out.setCell (p := ⟨ob3, n0 * 7 + 6, none⟩) (fun h => h.2.elim (fun h => absurd (show ob3 < base from h) (by omega)) HOZ3.out) _).trans (Keep.of_below (S := Fz base Zs eb) (Below.refl _ _).drew) (fun _ _ h => h))
 rw [hu4]
 have hu4z : u0.heap.size ≤ u4.heap.size := KP4.out.size
 have HZS4 : Hid (∀ b, Zs b → b < u4.heap.size) := qh (fun b hb => Nat.lt_of_lt_of_le (HZS0.out b hb) hu4z)
 clear k30 k31 k32 k33 f33 s30 s31 s32 s33 s34 s35 s36 s37 hk3 hs3
 clear hol3 hobb3 hoc3 hof6 hn6 hn0 hkq hobk hobk' hobs hu4 hcu4
 obtain ⟨k40, k41, k42, k43, f43⟩ := box4 KB4.out
 obtain ⟨s40, s41, s42, s43, s44, s45, s46, s47⟩ := cells8 SB4.out
 have hk4 := lt_of_block KB4.out
 have hs4 := lt_of_block SB4.out
 go_wp2_with fail
 have hcl := IHE.out oA oc u4 wP eb pg gA lA pA gc lc pc (some ⟨ob3, 0, none⟩) n3 c3 cu4 base Zs (RE0.out.keep (keep_cell KP4.out) (fun _ _ h => h)) he1 he2 KDE.out (by have := HTE.out; omega) (by have := HL4.out; omega) HPG.out (below_kp BP0.out KP4.out hPz hPS) hPe HEB.out heb (by omega) HZS4.out KB4.out GR4.out
 refine hcl.mono ?_
 clear hcl
 rintro e u5 ⟨rfl, kp5, A5, n5, c5, cu5, hcu5, hkb5, hgr5⟩
 have HC5 := qh hcu5
 have KB5 := qh hkb5
 have GR5 := qh hgr5
 have HL5 : Hid (cu5.length = n5) := qh (by obtain ⟨_, _, e, _, _⟩ := hgr5.slice; injection e with _ e; exact e.symm)
 have SB5 := qh ((kp5.block sb hs4 ⟨hnsk, .inr hZsb⟩).trans SB4.out)
 have KP5 := qh (KP4.out.trans kp5 (fun _ _ h => h))
 have hu5z : u0.heap.size ≤ u5.heap.size := KP5.out.size
 have HZS5 : Hid (∀ b, Zs b → b < u5.heap.size) := qh (fun b hb => Nat.lt_of_lt_of_le (HZS0.out b hb) hu5z)
 have hub5 : n5 ≤ n3 + 2 * snodess els := by
  have h1 := emSs_len (envP pg) n3 els
  have h2 := HL5.out
  have h3 := HL4.out
  rw [hcu5, List.length_append] at h2
  omega
 have hlw5 : n3 ≤ n5 := by
  have h2 := HL5.out
  have h3 := HL4.out
  rw [hcu5, List.length_append] at h2
  omega
 clear k40 k41 k42 k43 f43 s40 s41 s42 s43 s44 s45 s46 s47 hk4 hs4
 clear kp5 hcu5 hkb5 hgr5
 obtain ⟨k50, k51, k52, k53, f53⟩ := box4 KB5.out
 obtain ⟨s50, s51, s52, s53, s54, s55, s56, s57⟩ := cells8 SB5.out
 have hk5 := lt_of_block KB5.out
 have hs5 := lt_of_block SB5.out
 have hat5 : n2 < cu5.length := by have := HL5.out; omega
 obtain ⟨-, ob5, hob5, hol5, hobb5, hoz5, hof5, ⟨old5, hoc5⟩, hto5⟩ := grwi_to GR5.out hat5
 have HTO5 := qh (hto5 (n5 : Int) (by unfold i64in; omega))
 have HOZ5 := qh hoz5
 have HAT5 := qh hat5
 have hof6 := hof5 (n2 * 7 + 6)
 have hn6 : (n2 : Int) < (n5 : Int) := by have := HL5.out; omega
 have hn0 : (0 : Int) ≤ (n2 : Int) := by omega
 subst hob5
 clear hto5 hoz5 hof5
 have hobk : eb ≠ ob5 := by omega
 have hobk' : ob5 ≠ eb := by omega
 go_upto_region 29 with fail
 go_region_held3 (fun w' => w'.cell? ⟨eb, 3, none⟩ = some (.slice (some ⟨ob5, 0, none⟩) n5 c5) ∧ eb < w'.heap.size)
  (first | (with_reducible assumption) | exact ⟨k53, hk5⟩ | exact ⟨(World.cell?_setCell_other _ _ _ _ (by simp [hobk, hobk'])).trans k53, by simpa using hk5⟩)
  (first | fail)
 obtain ⟨u6, hu6⟩ : ∃ u, (u5.setCell ⟨ob5, n2 * 7 + 6, none⟩ (.int .i64 (n5 : Int))).drew = u := ⟨_, rfl⟩
 have hkq : ∀ b, b ≠ ob5 → u6.heap[b]? = u5.heap[b]? := fun b hb => by rw [← hu6]; exact Below.heap_setCell u5 ⟨ob5, n2 * 7 + 6, none⟩ _ b hb
 have hobs : sb ≠ ob5 := fun e => HOZ5.out (by rw [← e]; exact hZsb)
 have KB6 := qh ((hkq eb hobk).trans KB5.out)
 have SB6 := qh ((hkq sb hobs).trans SB5.out)
 obtain ⟨cu6, hcu6⟩ : ∃ cu, cu5.set n2 ⟨(cu5[n2]'HAT5.out).op, (cu5[n2]'HAT5.out).arg, (cu5[n2]'HAT5.out).term, (n5 : Int)⟩ = cu := ⟨_, rfl⟩
 have HC6 := qh hcu6
 have HL6 : Hid (cu6.length = n5) := qh (by rw [← hcu6, List.length_set]; exact HL5.out)
 have GR6 : Hid (GrwI base Zs u6 (.slice (some ⟨ob5, 0, none⟩) n5 c5) cu6) := qh (by
  rw [← hcu6, ← hu6]
  exact GrwX.below IcP.keepP HTO5.out (Below.refl _ _).drew)
 have KP6 : Hid (Keep (Fz base Zs eb) u0 u6) := qh (by
  rw [← hu6]
  exact (KP5.out.setCell (p := ⟨ob5, n2 * 7 + 6, none⟩) (fun h => h.2.elim (fun h => absurd (show ob5 < base from h) (by omega)) HOZ5.out) _).trans (Keep.of_below (S := Fz base Zs eb) (Below.refl _ _).drew) (fun _ _ h => h))
 rw [hu6]
 have hu6z : u0.heap.size ≤ u6.heap.size := KP6.out.size
 have HZS6 : Hid (∀ b, Zs b → b < u6.heap.size) := qh (fun b hb => Nat.lt_of_lt_of_le (HZS0.out b hb) hu6z)
 clear k50 k51 k52 k53 f53 s50 s51 s52 s53 s54 s55 s56 s57 hk5 hs5
 clear hol5 hobb5 hoc5 hof6 hn6 hn0 hkq hobk hobk' hobs hu6 hcu6
 go_wp2_with fail
 have hfin := if1_fin (s := xs) h0e.out HL0.out HC1.out HL1.out HC2.out HL2.out HC3.out HL3.out HAT3.out HC4.out HC5.out HL5.out HAT5.out HC6.out
 exact ⟨EsFr.mk, (some ⟨ob5, 0, none⟩), n5, c5, cu6, hfin, KB6.out, SB6.out, GR6.out, KP6.out⟩
theorem es_k2 {x2 x3 : Value} (l : List St) (ih : ∀ g ∈ l, ∀ k s t b e, g = .mk k s t b e → EsC b ∧ EsC e) (A : Option Addr) (c : Nat) (w wP : World) (eb : Nat) (pg : Pg) (gA lA pA : Option Addr) (gc lc pc : Nat) (Ai : Option Addr) (ni ci : Nat) (cur : List Ic) (base : Nat) (Z : Nat → Prop)
  (row : StRow (Fz base Z eb) w A l) (hl : l.length ≤ c) (hc : c ≤ maxLen) (hkd : kdSs l) (htot : totGs l ≤ 1048577) (hsz : cur.length + 2 * snodess l ≤ 100000)
  (hpg : PgIs wP ⟨gA, gc, lA, lc, pA, pc⟩ pg) (hbp : Below wP.heap.size wP w) (hPe : wP.heap.size ≤ eb) (henv : pg.globals.length ≤ 1000 ∧ pg.locks.length ≤ 1000 ∧ (pnames pg.procs).length ≤ 1000)
  (heb : eb < base) (hbase : base ≤ w.heap.size) (hZ : ∀ b, Z b → b < w.heap.size) (HLI : Hid (cur.length = ni))
  (j : Nat) (hlt : j < l.length) (wr : World) (hrel : EsJ w wr eb pg gA lA pA gc lc pc ni cur base Z l j)
  (hkn : ∀ k s t b e, l[j] = .mk k s t b e → k = 2) (Q : Exit → Act → World → Prop) (hQ : ∀ a' w', EsFr (.pointer (some ⟨eb, 0, none⟩)) (.slice A l.length c) x2 x3 (.int .i64 ((j : Int) + 1)) a' → EsJ w w' eb pg gA lA pA gc lc pc ni cur base Z l (j + 1) → Q .normal a' w') : ∀ a, EsFr (.pointer (some ⟨eb, 0, none⟩)) (.slice A l.length c) x2 x3 (.int .i64 (j : Int)) a → Code.wp Tryz.prog esBody Q a wr := by
 have IH := qh ih
 have RW := qh row
 have KDS := qh hkd
 have HPG := qh hpg
 have HBP := qh hbp
 have HEB := qh henv
 have HZ := qh hZ
 have HQ := qh hQ
 unfold maxLen at hc
 have hwPw := hbp.size
 clear ih row hkd hpg hbp henv hZ hQ
 obtain ⟨A0, n0, c0, cu0, hcj, hkbx, hgr, hkp⟩ := hrel
 have CJ := qh hcj
 have KPR := qh hkp
 have KBR := qh hkbx
 have GRR := qh hgr
 have HL0 : Hid (cu0.length = n0) := qh (by obtain ⟨_, _, e, _, _⟩ := hgr.slice; injection e with _ e; exact e.symm)
 have hwsz := hkp.size
 have hroom : n0 + 2 * snodes l[j] ≤ 100000 := by
  have h1 := emSs_here (envP pg) ni l j hlt
  have h2 := HL0.out
  rw [hcj, List.length_append] at h2
  omega
 obtain ⟨b, off, x, rfl, hFb, ⟨d0, d1, d2, d3, d4, d5, d6, d7⟩, hst⟩ := rd_stmt (RW.out.keep (keep_cell hkp) (fun _ _ h => h)) hlt
 have hk1 := kdSs_mem KDS.out (List.getElem_mem hlt)
 have htg := totGs_ltE (List.getElem_mem hlt)
 have hkn' := hkn
 have hih := IH.out _ (List.getElem_mem hlt)
 generalize hG : l[j] = gj at hroom hst hk1 htg hih hkn'
 obtain ⟨xk, xs, tk, tn, ts, tA, tm, tc, bA, bm, bc, oA, om, oc⟩ := x
 obtain ⟨t, body, els, rfl, hki, hxs, htm, hbm, hb1, hb2, rowb, hem, he1, he2, rowe⟩ := hst.inv
 simp only at d0 d1 d2 d3 d4 d5 d6 d7 hki hxs htm hbm hb1 hb2 rowb hem he1 he2 rowe hG hroom hk1 htg hih
 clear hkn
 subst hbm hem
 have HG := qh hG
 rw [kdT] at hk1
 rw [totG] at htg
 rw [snodes] at hroom
 obtain ⟨hx1, hx8, hkdb, hkde⟩ := hk1
 obtain ⟨ihb, ihe⟩ := hih _ _ _ _ _ rfl
 have IHB := qh ihb
 have IHE := qh ihe
 have KDB := qh hkdb
 have KDE := qh hkde
 have HTB : Hid (totGs body ≤ 1048576) := qh (by omega)
 have HTE : Hid (totGs els ≤ 1048576) := qh (by omega)
 have HTT : Hid (totT t ≤ 1048576) := qh (by omega)
 have TMR := qh htm
 have RBR := qh rowb
 have RER := qh rowe
 clear hst hih hG hki hxs htm rowb rowe hkdb hkde ihb ihe htg hcj
 have hlb := cell_lt d0
 obtain ⟨sb, hsb⟩ : ∃ sb, wr.heap.size = sb := ⟨_, rfl⟩
 obtain ⟨Zs, hZsZ, hZsb, hZsi⟩ : ∃ Zs : Nat → Prop, (∀ b, Z b → Zs b) ∧ Zs sb ∧ ∀ b, Zs b → Z b ∨ b = sb := ⟨fun b => Z b ∨ b = sb, fun b h => .inl h, .inr rfl, fun b h => h⟩
 have hnsk : ¬ sb = eb := by omega
 have hnks : ¬ eb = sb := by omega
 obtain ⟨u0, hu0⟩ : ∃ u0, wr.alloc (.cells #[.int .i64 xk, .string xs, .int .i64 tk, .int .i64 tn, .string ts, .slice tA tm tc, .slice bA body.length bc, .slice oA els.length oc] 71) = u0 := ⟨_, rfl⟩
 have B0 : Hid (Below wr.heap.size wr u0) := qh (by rw [← hu0]; exact Below.alloc (Below.refl _ _) (Nat.le_refl _) _)
 have SB0 : Hid (u0.heap[sb]? = some (.cells #[.int .i64 xk, .string xs, .int .i64 tk, .int .i64 tn, .string ts, .slice tA tm tc, .slice bA body.length bc, .slice oA els.length oc] 71 (0, 0))) := qh (by rw [← hsb, ← hu0]; exact heap_alloc_new _ _)
 have KB0 := qh ((B0.out.block eb (lt_of_block KBR.out)).trans KBR.out)
 have GR0 : Hid (GrwI base Zs u0 (.slice A0 n0 c0) cu0) := qh ((GRR.out.zsub (fun b _ h2 h => (hZsi b h).elim id (fun e => by omega))).below IcP.keepP B0.out)
 have KP0 : Hid (Keep (Fz base Zs eb) u0 u0) := qh (Keep.refl _ _)
 have HZS0 : Hid (∀ b, Zs b → b < u0.heap.size) := qh (fun b h => by
  have h1 := lt_of_block SB0.out
  rcases hZsi b h with h | h
  ·have := HZ.out b h; have := B0.out.size; omega
  ·omega)
 have hz0 : wr.heap.size ≤ u0.heap.size := B0.out.size
 have hfz : ∀ b, b < wr.heap.size → Fz base Z eb b → Fz base Zs eb b := fun b _ h => ⟨h.1, h.2.imp id (hZsZ b)⟩
 have KW : Hid (Keep (Fz base Z eb) w u0) := qh (KPR.out.trans (Keep.of_below (S := Fz base Z eb) B0.out) (fun _ _ h => h))
 have BP0 : Hid (Below wP.heap.size wP u0) := qh (below_kp HBP.out KW.out (by omega) (fun b hb => ⟨by omega, .inl (by omega)⟩))
 have hPz : wP.heap.size ≤ u0.heap.size := by omega
 have hPS : ∀ b, b < wP.heap.size → Fz base Zs eb b := fun b hb => ⟨by omega, .inl (by omega)⟩
 have TM0 := qh (TMR.out.keep (keep_cell (Keep.of_below (S := Fz base Z eb) B0.out)) (F' := Fz base Zs eb) (fun b hb h => hfz b hb h))
 have RB0 := qh (RBR.out.keep (keep_cell (Keep.of_below (S := Fz base Z eb) B0.out)) (F' := Fz base Zs eb) (fun b hb h => hfz b hb h))
 have RE0 := qh (RER.out.keep (keep_cell (Keep.of_below (S := Fz base Z eb) B0.out)) (F' := Fz base Zs eb) (fun b hb h => hfz b hb h))
 clear KBR GRR TMR RBR RER hfz
 obtain rfl : xk = 2 := hkn' _ _ _ _ _ rfl
 clear hkn'
 refine EsFr.all ?_
 intros
 conv => arg 2; whnf
 obtain ⟨k00, k01, k02, k03, f03⟩ := box4 KB0.out
 obtain ⟨s00, s01, s02, s03, s04, s05, s06, s07⟩ := cells8 SB0.out
 have hk0 := lt_of_block KB0.out
 have hs0 := lt_of_block SB0.out
 have BD0 : Hid (Below u0.heap.size u0 u0) := qh (Below.refl _ _)
 have TMD0 := qh ((TM0.out.keep (keep_cell KP0.out) (fun _ _ h => h)).any.belowA BD0.out)
 have PGR0 := qh (HPG.out.belowA (below_kp BP0.out KP0.out hPz hPS))
 go_wp2_with fail
 have hcl := spec_l03Copy t tk tn ts tA tm tc u0 TMD0.out HTT.out
 refine hcl.mono ?_
 clear hcl
 rintro e wY0 ⟨k2, m2, s2, A2, q2, c2, rfl, ht2, b2⟩
 have T2 := qh ht2
 have BY0 : Hid (Below u0.heap.size u0 wY0) := qh (below_then BD0.out b2)
 have KY0 := qh ((BY0.out.block eb hk0).trans KB0.out)
 have SY0 := qh ((BY0.out.block sb hs0).trans SB0.out)
 have hky := lt_of_block KY0.out
 have hsy := lt_of_block SY0.out
 have PGY0 := qh (PGR0.out.belowA (by first | exact BY0.out | exact BY0.out))
 clear ht2 b2
 obtain ⟨z0, z1, z2, z3, zf3⟩ := box4 KY0.out
 obtain ⟨r0, r1, r2, r3, r4, r5, r6, r7⟩ := cells8 SY0.out
 go_wp2_with fail
 have hcl := spec_l08Put u0 wY0 eb gA lA pA A0 A2 pg.globals.length gc pg.locks.length lc pg.procs.length pc n0 c0 q2 c2 2 0 k2 m2 0 s2 cu0 ⟨2, 0, t, 0⟩ base Zs (Made u0 wY0) BY0.out KB0.out GR0.out heb (by omega) HZS0.out (icP_term 2 0 (i64_of (by omega) (by omega)) (i64_of (by omega) (by omega)) T2.out) (fun b hb => hb) (by omega)
 refine hcl.mono ?_
 clear hcl
 rintro e u1 ⟨rfl, A1, n1, c1, hkb1, hn1, hgr1, kp1⟩
 have KB1 := qh hkb1
 have HN1 := qh hn1
 have GRa1 := qh hgr1
 have KPa1 := qh kp1
 have SB1 := qh ((kp1.block sb hs0 ⟨hnsk, .inr hZsb⟩).trans SB0.out)
 clear hkb1 hn1 hgr1 kp1
 clear z0 z1 z2 z3 zf3 r0 r1 r2 r3 r4 r5 r6 r7 hky hsy
 clear k00 k01 k02 k03 f03 s00 s01 s02 s03 s04 s05 s06 s07 hk0 hs0
 obtain ⟨cu1, hcu1⟩ : ∃ cu, cu0 ++ [⟨2, 0, t, 0⟩] = cu := ⟨_, rfl⟩
 have HC1 := qh hcu1
 have GR1 : Hid (GrwI base Zs u1 (.slice A1 n1 c1) cu1) := qh (by rw [← hcu1]; exact GRa1.out)
 have HL1 : Hid (cu1.length = n1) := qh (by rw [← hcu1, HN1.out, ← HL0.out]; simp)
 have KP1 := qh (KP0.out.trans KPa1.out (fun _ _ h => h))
 have hu1z : u0.heap.size ≤ u1.heap.size := KP1.out.size
 have HZS1 : Hid (∀ b, Zs b → b < u1.heap.size) := qh (fun b hb => Nat.lt_of_lt_of_le (HZS0.out b hb) hu1z)
 have hub1 : n1 ≤ n0 + 1 := Nat.le_of_eq HN1.out
 have hlw1 : n0 + 1 ≤ n1 := Nat.le_of_eq HN1.out.symm
 clear hcu1 GRa1 KPa1
 obtain ⟨k10, k11, k12, k13, f13⟩ := box4 KB1.out
 obtain ⟨s10, s11, s12, s13, s14, s15, s16, s17⟩ := cells8 SB1.out
 have hk1 := lt_of_block KB1.out
 have hs1 := lt_of_block SB1.out
 go_wp2_with fail
 have hcl := IHB.out bA bc u1 wP eb pg gA lA pA gc lc pc A1 n1 c1 cu1 base Zs (RB0.out.keep (keep_cell KP1.out) (fun _ _ h => h)) hb1 hb2 KDB.out (by have := HTB.out; omega) (by have := HL1.out; omega) HPG.out (below_kp BP0.out KP1.out hPz hPS) hPe HEB.out heb (by omega) HZS1.out KB1.out GR1.out
 refine hcl.mono ?_
 clear hcl
 rintro e u2 ⟨rfl, kp2, A2, n2, c2, cu2, hcu2, hkb2, hgr2⟩
 have HC2 := qh hcu2
 have KB2 := qh hkb2
 have GR2 := qh hgr2
 have HL2 : Hid (cu2.length = n2) := qh (by obtain ⟨_, _, e, _, _⟩ := hgr2.slice; injection e with _ e; exact e.symm)
 have SB2 := qh ((kp2.block sb hs1 ⟨hnsk, .inr hZsb⟩).trans SB1.out)
 have KP2 := qh (KP1.out.trans kp2 (fun _ _ h => h))
 have hu2z : u0.heap.size ≤ u2.heap.size := KP2.out.size
 have HZS2 : Hid (∀ b, Zs b → b < u2.heap.size) := qh (fun b hb => Nat.lt_of_lt_of_le (HZS0.out b hb) hu2z)
 have hub2 : n2 ≤ n1 + 2 * snodess body := by
  have h1 := emSs_len (envP pg) n1 body
  have h2 := HL2.out
  have h3 := HL1.out
  rw [hcu2, List.length_append] at h2
  omega
 have hlw2 : n1 ≤ n2 := by
  have h2 := HL2.out
  have h3 := HL1.out
  rw [hcu2, List.length_append] at h2
  omega
 clear k10 k11 k12 k13 f13 s10 s11 s12 s13 s14 s15 s16 s17 hk1 hs1
 clear kp2 hcu2 hkb2 hgr2
 have hs2' := lt_of_block SB2.out
 have h02 : n0 < n2 := by omega
 by_cases h0e' : els.length = 0
 ·have hel : ¬ (0 : Int) < (els.length : Int) := by omega
  have H0E := qh h0e'
  clear h0e'
  obtain ⟨q20, q21, q22, q23, q24, q25, q26, q27⟩ := cells8 SB2.out
  have hsq := lt_of_block SB2.out
  go_upto_if 135 with fail
  clear q20 q21 q22 q23 q24 q25 q26 q27 hsq
  refine wp_mono (es_if0 tk tn xs ts tA bA oA tm tc bc oc t body els eb sb pg gA lA pA gc lc pc base Zs heb hnsk hnks hZsb u0 u2 n0 n1 n2 c2 A2 cu0 cu1 cu2 (by omega) HZS0 hs2' HL0 HC1 HL1 HC2 HL2 (by omega) (by omega) h02 KB2 SB2 GR2 KP2 H0E _ EsF2.mk) ?_
  rintro e a' w3 ⟨rfl, hfr, hifj⟩
  obtain ⟨A3, n3, c3, cu3, hcu3, hkb3, hsb3, hgr3, hkp3⟩ := hifj
  have HC3 := qh hcu3
  have KB3 := qh hkb3
  have SB3 := qh hsb3
  have GR3 := qh hgr3
  have KP3 := qh hkp3
  clear hcu3 hkb3 hsb3 hgr3 hkp3
  revert a'
  refine EsFr.all ?_
  intros
  go_wp2_with fail
  have hfin : cu3 = cu0 ++ emT (envP pg) n0 (.mk 2 xs t body els) := by
   exact HC3.out
  refine HQ.out _ _ EsFr.mk ⟨A3, n3, c3, cu3, ?_, KB3.out, GR3.out.zsub (fun b _ _ h => hZsZ b h), (KPR.out.trans (Keep.of_below (S := Fz base Z eb) B0.out) (fun _ _ h => h)).trans (KP3.out.mono (fun b _ h => ⟨h.1, h.2.imp id (hZsZ b)⟩)) (fun _ _ h => h)⟩
  rw [List.take_succ_eq_append_getElem hlt, HG.out, emSs_snoc, ← List.append_assoc, ← CJ.out, hfin]
  have h1 : ni + (emSs (envP pg) ni (l.take j)).length = n0 := by have h2 := HL0.out; rw [CJ.out, List.length_append, HLI.out] at h2; exact h2
  rw [h1]
 ·have hel : (0 : Int) < (els.length : Int) := by omega
  have H0E := qh h0e'
  clear h0e'
  obtain ⟨q20, q21, q22, q23, q24, q25, q26, q27⟩ := cells8 SB2.out
  have hsq := lt_of_block SB2.out
  go_upto_if 135 with fail
  clear q20 q21 q22 q23 q24 q25 q26 q27 hsq
  refine wp_mono (es_if1 tk tn xs ts tA bA oA tm tc bc oc t body els eb sb pg gA lA pA gc lc pc base Zs heb hnsk hnks hZsb u0 u2 n0 n1 n2 c2 A2 cu0 cu1 cu2 (by omega) HZS0 hs2' HL0 HC1 HL1 HC2 HL2 (by omega) (by omega) h02 KB2 SB2 GR2 KP2 H0E IHE RE0 he1 he2 KDE HTE wP HPG BP0 hPe hPz hPS HEB _ EsF2.mk) ?_
  rintro e a' w3 ⟨rfl, hfr, hifj⟩
  obtain ⟨A3, n3, c3, cu3, hcu3, hkb3, hsb3, hgr3, hkp3⟩ := hifj
  have HC3 := qh hcu3
  have KB3 := qh hkb3
  have SB3 := qh hsb3
  have GR3 := qh hgr3
  have KP3 := qh hkp3
  clear hcu3 hkb3 hsb3 hgr3 hkp3
  revert a'
  refine EsFr.all ?_
  intros
  go_wp2_with fail
  have hfin : cu3 = cu0 ++ emT (envP pg) n0 (.mk 2 xs t body els) := by
   exact HC3.out
  refine HQ.out _ _ EsFr.mk ⟨A3, n3, c3, cu3, ?_, KB3.out, GR3.out.zsub (fun b _ _ h => hZsZ b h), (KPR.out.trans (Keep.of_below (S := Fz base Z eb) B0.out) (fun _ _ h => h)).trans (KP3.out.mono (fun b _ h => ⟨h.1, h.2.imp id (hZsZ b)⟩)) (fun _ _ h => h)⟩
  rw [List.take_succ_eq_append_getElem hlt, HG.out, emSs_snoc, ← List.append_assoc, ← CJ.out, hfin]
  have h1 : ni + (emSs (envP pg) ni (l.take j)).length = n0 := by have h2 := HL0.out; rw [CJ.out, List.length_append, HLI.out] at h2; exact h2
  rw [h1]
end Go.Proofs.YtnmblfonmfjoeaaGreatDoor
