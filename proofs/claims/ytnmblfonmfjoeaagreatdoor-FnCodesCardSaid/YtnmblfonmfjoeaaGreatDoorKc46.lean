/- Lemmas for the row. -/
import Derived.Test.YtnmblfonmfjoeaaGreatDoorKc45
namespace Go.Proofs.YtnmblfonmfjoeaaGreatDoor
open Go.RowKit
set_option maxHeartbeats 6400000
set_option maxRecDepth 100000
set_option linter.unusedVariables false
theorem ad_k47 {x1 x2 x3 x4 : Value} (l : List St) (ih : ∀ g ∈ l, ∀ k s t b e, g = .mk k s t b e → AddC b ∧ AddC e) (A : Option Addr) (c : Nat) (w : World) (kb : Nat) (env : Env) (gA lA pA eA : Option Addr) (gc lc pc en ec : Nat) (Ai : Option Addr) (ni ci : Nat) (cur : List Ic) (base : Nat) (Z : Nat → Prop)
  (row : StRow (Fz base Z kb) w A l) (hl : l.length ≤ c) (hc : c ≤ maxLen) (hkd : kdSs l) (htot : totGs l ≤ 1048577) (hsz : cur.length + 2 * snodess l ≤ 100000)
  (hstr : StrsF (Fz base Z kb) w (.slice gA env.G.length gc) env.G ∧ StrsF (Fz base Z kb) w (.slice lA env.L.length lc) env.L ∧ StrsF (Fz base Z kb) w (.slice pA env.P.length pc) env.P) (henv : env.G.length ≤ 1000 ∧ env.L.length ≤ 1000 ∧ env.P.length ≤ 1000)
  (hkb : kb < base) (hbase : base ≤ w.heap.size) (hZ : ∀ b, Z b → b < w.heap.size) (HLI : Hid (cur.length = ni))
  (j : Nat) (hlt : j < l.length) (wr : World) (hrel : AdJ w wr kb env gA lA pA eA gc lc pc en ec ni cur base Z l j)
  (hkn : ∀ k s t b e, l[j] = .mk k s t b e → k = 4 ∨ k = 5 ∨ k = 6 ∨ k = 7) (Q : Exit → Act → World → Prop) (hQ : ∀ a' w', AdFr (.pointer (some ⟨kb, 0, none⟩)) x1 x2 x3 x4 (.slice A l.length c) (.int .i64 (l.length : Int)) (.int .i64 ((j : Int) + 1)) a' → AdJ w w' kb env gA lA pA eA gc lc pc en ec ni cur base Z l (j + 1) → Q .normal a' w') : ∀ a, AdFr (.pointer (some ⟨kb, 0, none⟩)) x1 x2 x3 x4 (.slice A l.length c) (.int .i64 (l.length : Int)) (.int .i64 (j : Int)) a → Code.wp Tryz.prog adBody Q a wr := by
 have IH := qh ih
 have RW := qh row
 have KDS := qh hkd
 have HST := qh hstr
 have HEB := qh henv
 have HZ := qh hZ
 have HQ := qh hQ
 unfold maxLen at hc
 clear ih row hkd hstr henv hZ hQ
 obtain ⟨A0, n0, c0, cu0, hcj, hkbx, hgr, hkp⟩ := hrel
 have CJ := qh hcj
 have KPR := qh hkp
 have KBR := qh hkbx
 have GRR := qh hgr
 have HL0 : Hid (cu0.length = n0) := qh (by obtain ⟨_, _, e, _, _⟩ := hgr.slice; injection e with _ e; exact e.symm)
 have hwsz := hkp.size
 have hroom : n0 + 2 * snodes l[j] ≤ 100000 := by
  have h1 := emSs_here env ni l j hlt
  have h2 := HL0.out
  rw [hcj, List.length_append] at h2
  omega
 obtain ⟨b, off, x, rfl, hFb, ⟨d0, d1, d2, d3, d4, d5, d6, d7⟩, hst⟩ := rd_stmt (RW.out.keep (keep_cell hkp) (fun _ _ h => h)) hlt
 have hk1 := kdSs_mem KDS.out (List.getElem_mem hlt)
 have htg := totGs_ltE (List.getElem_mem hlt)
 have hkn' := hkn
 have hih := IH.out _ (List.getElem_mem hlt)
 generalize hG : l[j] = gj at hroom hst hk1 htg hih hkn'
 obtain ⟨xk, xs, tk, tn, ts, tA, tm, tc, bA, bm, bc, oA, om, oc⟩ := x
 obtain ⟨t, body, els, rfl, hki, hxs, htm, hbm, hb1, hb2, rowb, hem, he1, he2, rowe⟩ := hst.inv
 simp only at d0 d1 d2 d3 d4 d5 d6 d7 hki hxs htm hbm hb1 hb2 rowb hem he1 he2 rowe hG hroom hk1 htg hih
 clear hkn
 subst hbm hem
 have HG := qh hG
 rw [kdT] at hk1
 rw [totG] at htg
 rw [snodes] at hroom
 obtain ⟨hx1, hx8, hkdb, hkde⟩ := hk1
 obtain ⟨ihb, ihe⟩ := hih _ _ _ _ _ rfl
 have IHB := qh ihb
 have IHE := qh ihe
 have KDB := qh hkdb
 have KDE := qh hkde
 have HTB : Hid (totGs body ≤ 1048576) := qh (by omega)
 have HTE : Hid (totGs els ≤ 1048576) := qh (by omega)
 have HTT : Hid (totT t ≤ 1048576) := qh (by omega)
 have TMR := qh htm
 have RBR := qh rowb
 have RER := qh rowe
 clear hst hih hG hki hxs htm rowb rowe hkdb hkde ihb ihe htg hcj
 have hlb := cell_lt d0
 obtain ⟨sb, hsb⟩ : ∃ sb, wr.heap.size = sb := ⟨_, rfl⟩
 obtain ⟨Zs, hZsZ, hZsb, hZsi⟩ : ∃ Zs : Nat → Prop, (∀ b, Z b → Zs b) ∧ Zs sb ∧ ∀ b, Zs b → Z b ∨ b = sb := ⟨fun b => Z b ∨ b = sb, fun b h => .inl h, .inr rfl, fun b h => h⟩
 have hnsk : ¬ sb = kb := by omega
 have hnks : ¬ kb = sb := by omega
 obtain ⟨u0, hu0⟩ : ∃ u0, wr.alloc (.cells #[.int .i64 xk, .string xs, .int .i64 tk, .int .i64 tn, .string ts, .slice tA tm tc, .slice bA body.length bc, .slice oA els.length oc] 71) = u0 := ⟨_, rfl⟩
 have B0 : Hid (Below wr.heap.size wr u0) := qh (by rw [← hu0]; exact Below.alloc (Below.refl _ _) (Nat.le_refl _) _)
 have SB0 : Hid (u0.heap[sb]? = some (.cells #[.int .i64 xk, .string xs, .int .i64 tk, .int .i64 tn, .string ts, .slice tA tm tc, .slice bA body.length bc, .slice oA els.length oc] 71 (0, 0))) := qh (by rw [← hsb, ← hu0]; exact heap_alloc_new _ _)
 have KB0 := qh ((B0.out.block kb (lt_of_block KBR.out)).trans KBR.out)
 have GR0 : Hid (GrwI base Zs u0 (.slice A0 n0 c0) cu0) := qh ((GRR.out.zsub (fun b _ h2 h => (hZsi b h).elim id (fun e => by omega))).below IcP.keepP B0.out)
 have KP0 : Hid (Keep (Fz base Zs kb) u0 u0) := qh (Keep.refl _ _)
 have HZS0 : Hid (∀ b, Zs b → b < u0.heap.size) := qh (fun b h => by
  have h1 := lt_of_block SB0.out
  rcases hZsi b h with h | h
  ·have := HZ.out b h; have := B0.out.size; omega
  ·omega)
 have hz0 : wr.heap.size ≤ u0.heap.size := B0.out.size
 have hfz : ∀ b, b < wr.heap.size → Fz base Z kb b → Fz base Zs kb b := fun b _ h => ⟨h.1, h.2.imp id (hZsZ b)⟩
 have KW : Hid (Keep (Fz base Z kb) w u0) := qh (KPR.out.trans (Keep.of_below (S := Fz base Z kb) B0.out) (fun _ _ h => h))
 have SG0 := qh (HST.out.1.keep (keep_cell KW.out) (fun b hb h => (⟨h.1, h.2.imp id (hZsZ b)⟩ : Fz base Zs kb b)))
 have SL0 := qh (HST.out.2.1.keep (keep_cell KW.out) (fun b hb h => (⟨h.1, h.2.imp id (hZsZ b)⟩ : Fz base Zs kb b)))
 have SP0 := qh (HST.out.2.2.keep (keep_cell KW.out) (fun b hb h => (⟨h.1, h.2.imp id (hZsZ b)⟩ : Fz base Zs kb b)))
 have TM0 := qh (TMR.out.keep (keep_cell (Keep.of_below (S := Fz base Z kb) B0.out)) (F' := Fz base Zs kb) (fun b hb h => hfz b hb h))
 have RB0 := qh (RBR.out.keep (keep_cell (Keep.of_below (S := Fz base Z kb) B0.out)) (F' := Fz base Zs kb) (fun b hb h => hfz b hb h))
 have RE0 := qh (RER.out.keep (keep_cell (Keep.of_below (S := Fz base Z kb) B0.out)) (F' := Fz base Zs kb) (fun b hb h => hfz b hb h))
 clear KBR GRR TMR RBR RER hfz
 obtain ⟨K0, hK0⟩ : ∃ z : Int, z = xk := ⟨_, rfl⟩
 have HK0 := qh hK0
 clear hK0
 rcases hkn' _ _ _ _ _ rfl with rfl | rfl | rfl | rfl
 all_goals
  clear hkn'
  refine AdFr.all ?_
  intros
  conv => arg 2; whnf
  obtain ⟨k00, k01, k02, k03, k04, f03, f04⟩ := box5 KB0.out
  obtain ⟨s00, s01, s02, s03, s04, s05, s06, s07⟩ := cells8 SB0.out
  have hk0 := lt_of_block KB0.out
  have hs0 := lt_of_block SB0.out
  have BY0 : Hid (Below u0.heap.size u0 u0.drew) := qh (Below.refl _ _).drew
  obtain ⟨cs0, G0, hat0⟩ := GR0.out; have HAT0 := qh hat0; have OW0 := qh (hat0.ow.keep (Keep.of_below (S := fun _ => True) BY0.out) (fun _ _ => trivial)).own; rw [HL0.out] at OW0; clear hat0
  have KY0 := qh ((BY0.out.block kb hk0).trans KB0.out)
  have SY0 := qh ((BY0.out.block sb hs0).trans SB0.out)
  have ISP := qh ((SP0.out.keep (keep_cell KP0.out) (fun _ _ h => h)).keep (keep_cell (Keep.of_below (S := Fz base Zs kb) BY0.out)) (fun _ _ h => h)).is
  have ISL := qh ((SL0.out.keep (keep_cell KP0.out) (fun _ _ h => h)).keep (keep_cell (Keep.of_below (S := Fz base Zs kb) BY0.out)) (fun _ _ h => h)).is
  first
   | go_upto_region 24 with fail
   | go_upto_region 26 with fail
   | go_upto_region 28 with fail
   | go_upto_region 30 with fail
  have tst1 : n0 + 1 ≤ 2000000 := by omega
  have hS0 : (SpJ kb sb (.slice gA env.G.length gc) (.slice lA env.L.length lc) (.slice pA env.P.length pc) (.slice A0 n0 c0) (.string xs) (.int .i64 tk) (.int .i64 tn) (.string ts) (.slice tA tm tc) u0.drew) := spJ_of KB0.out SB0.out
  refine wp_region_noPanic ?_
  refine wp_region_sk (fun w' => w'.cell? ⟨kb, 0, none⟩ = some (.slice gA env.G.length gc) ∧ w'.cell? ⟨kb, 1, none⟩ = some (.slice lA env.L.length lc) ∧ w'.cell? ⟨kb, 2, none⟩ = some (.slice pA env.P.length pc) ∧ w'.cell? ⟨kb, 4, none⟩ = some (.slice A0 n0 c0) ∧ w'.cell? ⟨sb, 1, none⟩ = some (.string xs) ∧ w'.cell? ⟨sb, 2, none⟩ = some (.int .i64 tk) ∧ w'.cell? ⟨sb, 3, none⟩ = some (.int .i64 tn) ∧ w'.cell? ⟨sb, 4, none⟩ = some (.string ts) ∧ w'.cell? ⟨sb, 5, none⟩ = some (.slice tA tm tc) ∧ kb < w'.heap.size ∧ sb < w'.heap.size) 17 (by kernel_rfl) hS0 (fun hHeld => ?_)
  refine skT 0 ?_
  refine skT 1 ?_
  refine skT 2 ?_
  refine skT 3 ?_
  refine skT 4 ?_
  refine skT 5 ?_
  refine skT 6 ?_
  refine skT 7 ?_
  refine skT 8 ?_
  refine skT 9 ?_
  refine skT 10 ?_
  refine wpSk_step (i := 11) (by kernel_rfl) rfl (fun K hK => ?_)
  go_simp
  first
   | obtain ⟨pz, hpz⟩ : ∃ z, z = placeS env.P xs := ⟨_, rfl⟩; have hcl := impl_PlaceOf (.slice pA env.P.length pc) env.P xs u0.drew ISP.out; rw [← hpz] at hcl; refine hcl.mono ?_; clear hcl; rintro e w' ⟨rfl, rfl⟩; have HPI : Hid (i64in pz) := qh (by rw [hpz]; exact placeS_in _ _ (by have := HEB.out; omega)); have HPE : Hid (emT env n0 (.mk K0 xs t body els) = [⟨K0, pz, zeroTm, 0⟩]) := qh (by rw [HK0.out, hpz, emT_one _ _ _ _ _ _ _ (by decide) (by decide)]; rfl); clear hpz
   | obtain ⟨pz, hpz⟩ : ∃ z, z = placeS env.L xs := ⟨_, rfl⟩; have hcl := impl_PlaceOf (.slice lA env.L.length lc) env.L xs u0.drew ISL.out; rw [← hpz] at hcl; refine hcl.mono ?_; clear hcl; rintro e w' ⟨rfl, rfl⟩; have HPI : Hid (i64in pz) := qh (by rw [hpz]; exact placeS_in _ _ (by have := HEB.out; omega)); have HPE : Hid (emT env n0 (.mk K0 xs t body els) = [⟨K0, pz, zeroTm, 0⟩]) := qh (by rw [HK0.out, hpz, emT_one _ _ _ _ _ _ _ (by decide) (by decide)]; rfl); clear hpz
  refine hK.out _ _ (fun _ => hHeld) ?_
  clear hK K
  try simp only [Act.put, layS, layZ, layC]
  refine skT 12 ?_
  refine wpSk_step (i := 13) (by kernel_rfl) rfl (fun K hK => ?_)
  go_simp
  refine hK.out _ _ (fun _ => (show (SpJ kb sb (.slice gA env.G.length gc) (.slice lA env.L.length lc) (.slice pA env.P.length pc) (.slice A0 n0 c0) (.string xs) (.int .i64 tk) (.int .i64 tn) (.string ts) (.slice tA tm tc) u0.drew) from hHeld).alloc _) ?_
  clear hK K hHeld
  try simp only [Act.put, layS, layZ, layC]
  refine wpSk_step (i := 14) (by kernel_rfl) rfl (fun K hK => ?_)
  first
   | refine step_appG _ inT (by rfl) _ _ (by rfl) (by rfl) (OW0.out.alloc _) _ 1 1 [.int .i64 4, .int .i64 pz, .int .i64 0, .int .i64 0, .string ⟨#[]⟩, .slice none 0 0, .int .i64 0] (by rfl) (by first | exact Rd.new _ 7 1 _ _ rfl | exact (Rd.new _ 7 1 _ _ rfl).drew) (by simp [Value.oneCell']) tst1 (by decide) ?_
   | refine step_appG _ inT (by rfl) _ _ (by rfl) (by rfl) (OW0.out.alloc _) _ 1 1 [.int .i64 5, .int .i64 pz, .int .i64 0, .int .i64 0, .string ⟨#[]⟩, .slice none 0 0, .int .i64 0] (by rfl) (by first | exact Rd.new _ 7 1 _ _ rfl | exact (Rd.new _ 7 1 _ _ rfl).drew) (by simp [Value.oneCell']) tst1 (by decide) ?_
   | refine step_appG _ inT (by rfl) _ _ (by rfl) (by rfl) (OW0.out.alloc _) _ 1 1 [.int .i64 6, .int .i64 pz, .int .i64 0, .int .i64 0, .string ⟨#[]⟩, .slice none 0 0, .int .i64 0] (by rfl) (by first | exact Rd.new _ 7 1 _ _ rfl | exact (Rd.new _ 7 1 _ _ rfl).drew) (by simp [Value.oneCell']) tst1 (by decide) ?_
   | refine step_appG _ inT (by rfl) _ _ (by rfl) (by rfl) (OW0.out.alloc _) _ 1 1 [.int .i64 7, .int .i64 pz, .int .i64 0, .int .i64 0, .string ⟨#[]⟩, .slice none 0 0, .int .i64 0] (by rfl) (by first | exact Rd.new _ 7 1 _ _ rfl | exact (Rd.new _ 7 1 _ _ rfl).drew) (by simp [Value.oneCell']) tst1 (by decide) ?_
  intro v' wz0 own' gr'
  have GZ0' : Grew (.slice A0 n0 c0) v' u0.drew wz0 := (Grew.of_below (Below.alloc (Below.refl _ _) (Nat.le_refl _) _)).trans gr'
  have hog : (Value.slice A0 n0 c0).ownBlock ≠ some kb := (fun e => by have := (HAT0.out.ow.lt kb e).1; omega)
  have KZ0 := qh ((GZ0'.keep.block kb (lt_of_block KY0.out) hog).trans KY0.out)
  have hogs : (Value.slice A0 n0 c0).ownBlock ≠ some sb := (fun e => HAT0.out.clear sb e hZsb)
  have SZ0 := qh ((GZ0'.keep.block sb (lt_of_block SY0.out) hogs).trans SY0.out)
  have hNew : (SpJ kb sb (.slice gA env.G.length gc) (.slice lA env.L.length lc) (.slice pA env.P.length pc) (.slice A0 n0 c0) (.string xs) (.int .i64 tk) (.int .i64 tn) (.string ts) (.slice tA tm tc) wz0) := spJ_of KZ0.out SZ0.out
  obtain ⟨A1, c1, rfl, _⟩ := own'.slice
  obtain ⟨n1, hn1⟩ : ∃ n, n0 + 1 = n := ⟨_, rfl⟩
  rw [hn1] at own' GZ0' ⊢
  have HNN0 : Hid (cu0.length + 1 = n1) := qh (by rw [HL0.out]; exact hn1)
  have OWN0 : Hid (Own (cutX base u0.drew) wz0 45 7 (.slice A1 n1 c1) (cu0.length + 1) (cs0.flatten ++ [.int .i64 K0, .int .i64 pz, .int .i64 0, .int .i64 0, .string ⟨#[]⟩, .slice none 0 0, .int .i64 0])) := qh (by rw [HNN0.out, HK0.out]; exact own')
  have GZ0 := qh GZ0'
  clear own' gr' GZ0' hn1
  refine hK.out _ _ (fun _ => hNew) ?_
  clear hK K
  have hHeld := hNew
  clear hNew
  try simp only [Act.put, layS, layZ, layC]
  refine skT 15 ?_
  refine skT 16 ?_
  clear hHeld hS0
  obtain ⟨y00, y01, y02, y03, y04, yf03, yf04⟩ := box5 KZ0.out
  have hy0 := lt_of_block KZ0.out
  refine wpSk_step (i := 17) (by kernel_rfl) rfl (fun K hK => ?_)
  go_simp
  refine hK.out _ _ (fun h => absurd h (by decide)) ?_
  clear hK K
  refine wpSk_done (by kernel_rfl) ?_ _
  refine NoPanic.normal ?_
  clear k00 k01 k02 k03 k04 f03 f04 s00 s01 s02 s03 s04 s05 s06 s07 hk0 hs0
  clear tst1 y00 y01 y02 y03 y04 yf03 yf04 hy0
  skip
  have DONE := grwi_app (o := 4) hkb HAT0.out BY0.out (icP_zero _ K0 pz 0 (by rw [HK0.out]; unfold i64in; omega) HPI.out (by unfold i64in; omega)) (fun b hb => hb.elim) HZS0.out OWN0.out GZ0.out (.slice A1 n1 c1)
  have HN1 : Hid (cu0.length + 1 = n1) := qh HNN0.out
  obtain ⟨cu1, hcu1⟩ : ∃ cu, cu0 ++ [⟨K0, pz, zeroTm, 0⟩] = cu := ⟨_, rfl⟩
  rw [hcu1] at DONE
  have HC1 := qh hcu1
  have HL1 : Hid (cu1.length = n1) := qh (by rw [← hcu1, ← HN1.out]; simp)
  clear hcu1
  have KB1 : Hid ((wz0.setCell ⟨kb, 4, none⟩ (.slice A1 n1 c1)).heap[kb]? = some (.cells #[.slice gA env.G.length gc, .slice lA env.L.length lc, .slice pA env.P.length pc, .slice eA en ec, .slice A1 n1 c1] 32 (0, 0))) := qh (s5_4 ((DONE.2.2 kb (.inr hkb)).trans KB0.out) _)
  have GR1 := qh DONE.1
  have KP1 := qh (KP0.out.trans DONE.2.1 (fun _ _ h => h))
  clear DONE
  obtain ⟨u1, hu1⟩ : ∃ u, wz0.setCell ⟨kb, 4, none⟩ (.slice A1 n1 c1) = u := ⟨_, rfl⟩
  rw [hu1] at KB1 GR1 KP1 ⊢
  have hu1z : u0.heap.size ≤ u1.heap.size := KP1.out.size
  have HZS1 : Hid (∀ b, Zs b → b < u1.heap.size) := qh (fun b hb => Nat.lt_of_lt_of_le (HZS0.out b hb) hu1z)
  have hub1 : n1 ≤ n0 + 1 := by have := HN1.out; have := HL0.out; omega
  have hlw1 : n0 + 1 ≤ n1 := by have := HN1.out; have := HL0.out; omega
  clear hu1
  go_wp2_with fail
  have hfin : cu1 = cu0 ++ emT env n0 (.mk K0 xs t body els) := by rw [← HC1.out, HPE.out]
  rw [HK0.out] at hfin
  refine HQ.out _ _ AdFr.mk ⟨A1, n1, c1, cu1, ?_, KB1.out, GR1.out.zsub (fun b _ _ h => hZsZ b h), (KPR.out.trans (Keep.of_below (S := Fz base Z kb) B0.out) (fun _ _ h => h)).trans (KP1.out.mono (fun b _ h => ⟨h.1, h.2.imp id (hZsZ b)⟩)) (fun _ _ h => h)⟩
  rw [List.take_succ_eq_append_getElem hlt, HG.out, emSs_snoc, ← List.append_assoc, ← CJ.out, hfin]
  have h1 : ni + (emSs env ni (l.take j)).length = n0 := by have h2 := HL0.out; rw [CJ.out, List.length_append, HLI.out] at h2; exact h2
  rw [h1]
theorem ad_k8 {x1 x2 x3 x4 : Value} (l : List St) (ih : ∀ g ∈ l, ∀ k s t b e, g = .mk k s t b e → AddC b ∧ AddC e) (A : Option Addr) (c : Nat) (w : World) (kb : Nat) (env : Env) (gA lA pA eA : Option Addr) (gc lc pc en ec : Nat) (Ai : Option Addr) (ni ci : Nat) (cur : List Ic) (base : Nat) (Z : Nat → Prop)
  (row : StRow (Fz base Z kb) w A l) (hl : l.length ≤ c) (hc : c ≤ maxLen) (hkd : kdSs l) (htot : totGs l ≤ 1048577) (hsz : cur.length + 2 * snodess l ≤ 100000)
  (hstr : StrsF (Fz base Z kb) w (.slice gA env.G.length gc) env.G ∧ StrsF (Fz base Z kb) w (.slice lA env.L.length lc) env.L ∧ StrsF (Fz base Z kb) w (.slice pA env.P.length pc) env.P) (henv : env.G.length ≤ 1000 ∧ env.L.length ≤ 1000 ∧ env.P.length ≤ 1000)
  (hkb : kb < base) (hbase : base ≤ w.heap.size) (hZ : ∀ b, Z b → b < w.heap.size) (HLI : Hid (cur.length = ni))
  (j : Nat) (hlt : j < l.length) (wr : World) (hrel : AdJ w wr kb env gA lA pA eA gc lc pc en ec ni cur base Z l j)
  (hkn : ∀ k s t b e, l[j] = .mk k s t b e → k = 8) (Q : Exit → Act → World → Prop) (hQ : ∀ a' w', AdFr (.pointer (some ⟨kb, 0, none⟩)) x1 x2 x3 x4 (.slice A l.length c) (.int .i64 (l.length : Int)) (.int .i64 ((j : Int) + 1)) a' → AdJ w w' kb env gA lA pA eA gc lc pc en ec ni cur base Z l (j + 1) → Q .normal a' w') : ∀ a, AdFr (.pointer (some ⟨kb, 0, none⟩)) x1 x2 x3 x4 (.slice A l.length c) (.int .i64 (l.length : Int)) (.int .i64 (j : Int)) a → Code.wp Tryz.prog adBody Q a wr := by
 have IH := qh ih
 have RW := qh row
 have KDS := qh hkd
 have HST := qh hstr
 have HEB := qh henv
 have HZ := qh hZ
 have HQ := qh hQ
 unfold maxLen at hc
 clear ih row hkd hstr henv hZ hQ
 obtain ⟨A0, n0, c0, cu0, hcj, hkbx, hgr, hkp⟩ := hrel
 have CJ := qh hcj
 have KPR := qh hkp
 have KBR := qh hkbx
 have GRR := qh hgr
 have HL0 : Hid (cu0.length = n0) := qh (by obtain ⟨_, _, e, _, _⟩ := hgr.slice; injection e with _ e; exact e.symm)
 have hwsz := hkp.size
 have hroom : n0 + 2 * snodes l[j] ≤ 100000 := by
  have h1 := emSs_here env ni l j hlt
  have h2 := HL0.out
  rw [hcj, List.length_append] at h2
  omega
 obtain ⟨b, off, x, rfl, hFb, ⟨d0, d1, d2, d3, d4, d5, d6, d7⟩, hst⟩ := rd_stmt (RW.out.keep (keep_cell hkp) (fun _ _ h => h)) hlt
 have hk1 := kdSs_mem KDS.out (List.getElem_mem hlt)
 have htg := totGs_ltE (List.getElem_mem hlt)
 have hkn' := hkn
 have hih := IH.out _ (List.getElem_mem hlt)
 generalize hG : l[j] = gj at hroom hst hk1 htg hih hkn'
 obtain ⟨xk, xs, tk, tn, ts, tA, tm, tc, bA, bm, bc, oA, om, oc⟩ := x
 obtain ⟨t, body, els, rfl, hki, hxs, htm, hbm, hb1, hb2, rowb, hem, he1, he2, rowe⟩ := hst.inv
 simp only at d0 d1 d2 d3 d4 d5 d6 d7 hki hxs htm hbm hb1 hb2 rowb hem he1 he2 rowe hG hroom hk1 htg hih
 clear hkn
 subst hbm hem
 have HG := qh hG
 rw [kdT] at hk1
 rw [totG] at htg
 rw [snodes] at hroom
 obtain ⟨hx1, hx8, hkdb, hkde⟩ := hk1
 obtain ⟨ihb, ihe⟩ := hih _ _ _ _ _ rfl
 have IHB := qh ihb
 have IHE := qh ihe
 have KDB := qh hkdb
 have KDE := qh hkde
 have HTB : Hid (totGs body ≤ 1048576) := qh (by omega)
 have HTE : Hid (totGs els ≤ 1048576) := qh (by omega)
 have HTT : Hid (totT t ≤ 1048576) := qh (by omega)
 have TMR := qh htm
 have RBR := qh rowb
 have RER := qh rowe
 clear hst hih hG hki hxs htm rowb rowe hkdb hkde ihb ihe htg hcj
 have hlb := cell_lt d0
 obtain ⟨sb, hsb⟩ : ∃ sb, wr.heap.size = sb := ⟨_, rfl⟩
 obtain ⟨Zs, hZsZ, hZsb, hZsi⟩ : ∃ Zs : Nat → Prop, (∀ b, Z b → Zs b) ∧ Zs sb ∧ ∀ b, Zs b → Z b ∨ b = sb := ⟨fun b => Z b ∨ b = sb, fun b h => .inl h, .inr rfl, fun b h => h⟩
 have hnsk : ¬ sb = kb := by omega
 have hnks : ¬ kb = sb := by omega
 obtain ⟨u0, hu0⟩ : ∃ u0, wr.alloc (.cells #[.int .i64 xk, .string xs, .int .i64 tk, .int .i64 tn, .string ts, .slice tA tm tc, .slice bA body.length bc, .slice oA els.length oc] 71) = u0 := ⟨_, rfl⟩
 have B0 : Hid (Below wr.heap.size wr u0) := qh (by rw [← hu0]; exact Below.alloc (Below.refl _ _) (Nat.le_refl _) _)
 have SB0 : Hid (u0.heap[sb]? = some (.cells #[.int .i64 xk, .string xs, .int .i64 tk, .int .i64 tn, .string ts, .slice tA tm tc, .slice bA body.length bc, .slice oA els.length oc] 71 (0, 0))) := qh (by rw [← hsb, ← hu0]; exact heap_alloc_new _ _)
 have KB0 := qh ((B0.out.block kb (lt_of_block KBR.out)).trans KBR.out)
 have GR0 : Hid (GrwI base Zs u0 (.slice A0 n0 c0) cu0) := qh ((GRR.out.zsub (fun b _ h2 h => (hZsi b h).elim id (fun e => by omega))).below IcP.keepP B0.out)
 have KP0 : Hid (Keep (Fz base Zs kb) u0 u0) := qh (Keep.refl _ _)
 have HZS0 : Hid (∀ b, Zs b → b < u0.heap.size) := qh (fun b h => by
  have h1 := lt_of_block SB0.out
  rcases hZsi b h with h | h
  ·have := HZ.out b h; have := B0.out.size; omega
  ·omega)
 have hz0 : wr.heap.size ≤ u0.heap.size := B0.out.size
 have hfz : ∀ b, b < wr.heap.size → Fz base Z kb b → Fz base Zs kb b := fun b _ h => ⟨h.1, h.2.imp id (hZsZ b)⟩
 have KW : Hid (Keep (Fz base Z kb) w u0) := qh (KPR.out.trans (Keep.of_below (S := Fz base Z kb) B0.out) (fun _ _ h => h))
 have SG0 := qh (HST.out.1.keep (keep_cell KW.out) (fun b hb h => (⟨h.1, h.2.imp id (hZsZ b)⟩ : Fz base Zs kb b)))
 have SL0 := qh (HST.out.2.1.keep (keep_cell KW.out) (fun b hb h => (⟨h.1, h.2.imp id (hZsZ b)⟩ : Fz base Zs kb b)))
 have SP0 := qh (HST.out.2.2.keep (keep_cell KW.out) (fun b hb h => (⟨h.1, h.2.imp id (hZsZ b)⟩ : Fz base Zs kb b)))
 have TM0 := qh (TMR.out.keep (keep_cell (Keep.of_below (S := Fz base Z kb) B0.out)) (F' := Fz base Zs kb) (fun b hb h => hfz b hb h))
 have RB0 := qh (RBR.out.keep (keep_cell (Keep.of_below (S := Fz base Z kb) B0.out)) (F' := Fz base Zs kb) (fun b hb h => hfz b hb h))
 have RE0 := qh (RER.out.keep (keep_cell (Keep.of_below (S := Fz base Z kb) B0.out)) (F' := Fz base Zs kb) (fun b hb h => hfz b hb h))
 clear KBR GRR TMR RBR RER hfz
 obtain rfl : xk = 8 := hkn' _ _ _ _ _ rfl
 clear hkn'
 refine AdFr.all ?_
 intros
 conv => arg 2; whnf
 obtain ⟨k00, k01, k02, k03, k04, f03, f04⟩ := box5 KB0.out
 obtain ⟨s00, s01, s02, s03, s04, s05, s06, s07⟩ := cells8 SB0.out
 have hk0 := lt_of_block KB0.out
 have hs0 := lt_of_block SB0.out
 obtain ⟨cs0, G0, hat0⟩ := GR0.out; have HAT0 := qh hat0; have OW0 := qh (hat0.ow.keep (Keep.of_below (S := fun _ => True) (Below.refl _ _)) (fun _ _ => trivial)).own; rw [HL0.out] at OW0; clear hat0
 have tst1 : n0 + 1 ≤ maxLen := by simp only [maxLen]; omega
 have tst2 : (n0 + 1) * 80 ≤ 140737488355328 := by omega
 go_wp2_with (at_builtin; refine wpList_appG_new u0.heap.size rfl rfl _ _ _ rfl inT OW0.out _ 1 rfl rfl rfl (by simp [Value.oneCell']) tst1 tst2 ?_; intro v7 wz0 own7 gr7; have hne0 : ∀ b, b = kb → (Value.slice A0 n0 c0).ownBlock ≠ some b := (fun b e1 e2 => by have := (HAT0.out.ow.lt b e2).1; omega); have KZ0 := qh ((gr7.keep.block kb hk0 (hne0 kb rfl)).trans KB0.out); obtain ⟨y00, y01, y02, y03, y04, yf03, yf04⟩ := box5 KZ0.out; have hy0 := lt_of_block KZ0.out; have hsl0 := own7.slice; obtain ⟨A1, c1, rfl, _⟩ := hsl0; obtain ⟨n1, hn1⟩ : ∃ n, n0 + 1 = n := ⟨_, rfl⟩; rw [hn1] at own7 gr7 ⊢; have HNN0 : Hid (cu0.length + 1 = n1) := qh (by rw [HL0.out]; exact hn1); have OWN0 : Hid (Own (cutX base u0) wz0 45 7 (.slice A1 n1 c1) (cu0.length + 1) (cs0.flatten ++ [.int .i64 8, .int .i64 0, .int .i64 0, .int .i64 0, .string ⟨#[]⟩, .slice none 0 0, .int .i64 0])) := qh (by rw [HNN0.out]; exact own7); have GZ0 := qh gr7; clear own7 gr7 hn1)
 clear k00 k01 k02 k03 k04 f03 f04 s00 s01 s02 s03 s04 s05 s06 s07 hk0 hs0
 clear tst1 tst2 y00 y01 y02 y03 y04 yf03 yf04 hy0
 have DONE := grwi_app (o := 4) hkb HAT0.out (Below.refl _ _) (icP_zero _ 8 0 0 (by unfold i64in; omega) (by unfold i64in; omega) (by unfold i64in; omega)) (fun b hb => hb.elim) HZS0.out OWN0.out GZ0.out (.slice A1 n1 c1)
 have HN1 : Hid (cu0.length + 1 = n1) := qh HNN0.out
 obtain ⟨cu1, hcu1⟩ : ∃ cu, cu0 ++ [⟨8, 0, zeroTm, 0⟩] = cu := ⟨_, rfl⟩
 rw [hcu1] at DONE
 have HC1 := qh hcu1
 have HL1 : Hid (cu1.length = n1) := qh (by rw [← hcu1, ← HN1.out]; simp)
 clear hcu1
 have KB1 : Hid ((wz0.setCell ⟨kb, 4, none⟩ (.slice A1 n1 c1)).heap[kb]? = some (.cells #[.slice gA env.G.length gc, .slice lA env.L.length lc, .slice pA env.P.length pc, .slice eA en ec, .slice A1 n1 c1] 32 (0, 0))) := qh (s5_4 ((DONE.2.2 kb (.inr hkb)).trans KB0.out) _)
 have SB1 : Hid ((wz0.setCell ⟨kb, 4, none⟩ (.slice A1 n1 c1)).heap[sb]? = some (.cells #[.int .i64 8, .string xs, .int .i64 tk, .int .i64 tn, .string ts, .slice tA tm tc, .slice bA body.length bc, .slice oA els.length oc] 71 (0, 0))) := qh ((Below.heap_setCell wz0 ⟨kb, 4, none⟩ _ sb hnsk).trans ((DONE.2.2 sb (.inl hZsb)).trans SB0.out))
 have GR1 := qh DONE.1
 have KP1 := qh (KP0.out.trans DONE.2.1 (fun _ _ h => h))
 clear DONE
 obtain ⟨u1, hu1⟩ : ∃ u, wz0.setCell ⟨kb, 4, none⟩ (.slice A1 n1 c1) = u := ⟨_, rfl⟩
 rw [hu1] at KB1 SB1 GR1 KP1 ⊢
 have hu1z : u0.heap.size ≤ u1.heap.size := KP1.out.size
 have HZS1 : Hid (∀ b, Zs b → b < u1.heap.size) := qh (fun b hb => Nat.lt_of_lt_of_le (HZS0.out b hb) hu1z)
 have hub1 : n1 ≤ n0 + 1 := by have := HN1.out; have := HL0.out; omega
 have hlw1 : n0 + 1 ≤ n1 := by have := HN1.out; have := HL0.out; omega
 clear hu1
 go_wp2_with fail
 have hfin : cu1 = cu0 ++ emT env n0 (.mk 8 xs t body els) := by
  rw [← HC1.out, emT_one _ _ _ _ _ _ _ (by decide) (by decide)]; rfl
 refine HQ.out _ _ AdFr.mk ⟨A1, n1, c1, cu1, ?_, KB1.out, GR1.out.zsub (fun b _ _ h => hZsZ b h), (KPR.out.trans (Keep.of_below (S := Fz base Z kb) B0.out) (fun _ _ h => h)).trans (KP1.out.mono (fun b _ h => ⟨h.1, h.2.imp id (hZsZ b)⟩)) (fun _ _ h => h)⟩
 rw [List.take_succ_eq_append_getElem hlt, HG.out, emSs_snoc, ← List.append_assoc, ← CJ.out, hfin]
 have h1 : ni + (emSs env ni (l.take j)).length = n0 := by have h2 := HL0.out; rw [CJ.out, List.length_append, HLI.out] at h2; exact h2
 rw [h1]
theorem ad_of (l : List St) (ih : ∀ g ∈ l, ∀ k s t b e, g = .mk k s t b e → AddC b ∧ AddC e) : AddC l := by
 intro A c w kb env gA lA pA eA gc lc pc en ec Ai ni ci cur base Z row hl hc hkd htot hsz hstr henv hkb hbase hZ hbox hgrw
 have IH := qh ih
 have RW := qh row
 have KDS := qh hkd
 have HST := qh hstr
 have HEB := qh henv
 have HZ := qh hZ
 have KBI := qh hbox
 have GRI := qh hgrw
 have HLI : Hid (cur.length = ni) := qh (by obtain ⟨_, _, e, _, _⟩ := hgrw.slice; injection e with _ e; exact e.symm)
 unfold maxLen at hc
 clear ih row hkd hstr henv hZ hbox hgrw
 go_enter Tryz.func19, Tryz.ntmps19
 go_wp2_with fail
 go_loopw [10] (fun i wr => ∃ j : Nat, j ≤ l.length ∧ i = .int .i64 j ∧ Hid (AdJ w wr kb env gA lA pA eA gc lc pc en ec ni cur base Z l j)) (fun i _ => l.length - (intOf i).toNat)
 case atStart => exact ⟨0, Nat.zero_le _, rfl, qh ⟨Ai, ni, ci, cur, by simp [emSs_nil], KBI.out, GRI.out, Keep.refl _ _⟩⟩
 case round =>
  rename World => wr
  obtain ⟨j, hj, rfl, HR⟩ := hrel
  by_cases hlt : j < l.length
  ·have hk1 := kdSs_mem KDS.out (List.getElem_mem hlt)
   obtain ⟨xk, xs, xt, xb, xe, hgj⟩ : ∃ k s t b e, l[j] = .mk k s t b e := by
    cases l[j] with
    | mk k s t b e => exact ⟨k, s, t, b, e, rfl⟩
   rw [hgj, kdT] at hk1
   obtain ⟨hx1, hx8, -, -⟩ := hk1
   have HGJ := qh hgj
   clear hgj
   rcases (show xk = 1 ∨ xk = 2 ∨ xk = 3 ∨ xk = 4 ∨ xk = 5 ∨ xk = 6 ∨ xk = 7 ∨ xk = 8 from by omega) with rfl | rfl | rfl | rfl | rfl | rfl | rfl | rfl
   ·refine ad_k1 l IH.out A c w kb env gA lA pA eA gc lc pc en ec Ai ni ci cur base Z RW.out hl hc KDS.out htot hsz HST.out HEB.out hkb hbase HZ.out HLI j hlt wr HR.out (fun k s t b e h => by have h2 := HGJ.out; rw [h] at h2; injection h2) _ (fun a' w' hfr haj => ?_) _ AdFr.mk
    have HAJ := qh haj
    clear haj
    revert a'
    refine AdFr.all ?_
    intros
    go_wp2_with fail
    go_roundw
    case rel => exact ⟨j + 1, by omega, by go_num, HAJ⟩
    case measure => simp [intOf]; omega
   ·refine ad_k2 l IH.out A c w kb env gA lA pA eA gc lc pc en ec Ai ni ci cur base Z RW.out hl hc KDS.out htot hsz HST.out HEB.out hkb hbase HZ.out HLI j hlt wr HR.out (fun k s t b e h => by have h2 := HGJ.out; rw [h] at h2; injection h2) _ (fun a' w' hfr haj => ?_) _ AdFr.mk
    have HAJ := qh haj
    clear haj
    revert a'
    refine AdFr.all ?_
    intros
    go_wp2_with fail
    go_roundw
    case rel => exact ⟨j + 1, by omega, by go_num, HAJ⟩
    case measure => simp [intOf]; omega
   ·refine ad_k3 l IH.out A c w kb env gA lA pA eA gc lc pc en ec Ai ni ci cur base Z RW.out hl hc KDS.out htot hsz HST.out HEB.out hkb hbase HZ.out HLI j hlt wr HR.out (fun k s t b e h => by have h2 := HGJ.out; rw [h] at h2; injection h2) _ (fun a' w' hfr haj => ?_) _ AdFr.mk
    have HAJ := qh haj
    clear haj
    revert a'
    refine AdFr.all ?_
    intros
    go_wp2_with fail
    go_roundw
    case rel => exact ⟨j + 1, by omega, by go_num, HAJ⟩
    case measure => simp [intOf]; omega
   ·refine ad_k47 l IH.out A c w kb env gA lA pA eA gc lc pc en ec Ai ni ci cur base Z RW.out hl hc KDS.out htot hsz HST.out HEB.out hkb hbase HZ.out HLI j hlt wr HR.out (fun k s t b e h => Or.inl (by have h2 := HGJ.out; rw [h] at h2; injection h2)) _ (fun a' w' hfr haj => ?_) _ AdFr.mk
    have HAJ := qh haj
    clear haj
    revert a'
    refine AdFr.all ?_
    intros
    go_wp2_with fail
    go_roundw
    case rel => exact ⟨j + 1, by omega, by go_num, HAJ⟩
    case measure => simp [intOf]; omega
   ·refine ad_k47 l IH.out A c w kb env gA lA pA eA gc lc pc en ec Ai ni ci cur base Z RW.out hl hc KDS.out htot hsz HST.out HEB.out hkb hbase HZ.out HLI j hlt wr HR.out (fun k s t b e h => Or.inr (Or.inl (by have h2 := HGJ.out; rw [h] at h2; injection h2))) _ (fun a' w' hfr haj => ?_) _ AdFr.mk
    have HAJ := qh haj
    clear haj
    revert a'
    refine AdFr.all ?_
    intros
    go_wp2_with fail
    go_roundw
    case rel => exact ⟨j + 1, by omega, by go_num, HAJ⟩
    case measure => simp [intOf]; omega
   ·refine ad_k47 l IH.out A c w kb env gA lA pA eA gc lc pc en ec Ai ni ci cur base Z RW.out hl hc KDS.out htot hsz HST.out HEB.out hkb hbase HZ.out HLI j hlt wr HR.out (fun k s t b e h => Or.inr (Or.inr (Or.inl (by have h2 := HGJ.out; rw [h] at h2; injection h2)))) _ (fun a' w' hfr haj => ?_) _ AdFr.mk
    have HAJ := qh haj
    clear haj
    revert a'
    refine AdFr.all ?_
    intros
    go_wp2_with fail
    go_roundw
    case rel => exact ⟨j + 1, by omega, by go_num, HAJ⟩
    case measure => simp [intOf]; omega
   ·refine ad_k47 l IH.out A c w kb env gA lA pA eA gc lc pc en ec Ai ni ci cur base Z RW.out hl hc KDS.out htot hsz HST.out HEB.out hkb hbase HZ.out HLI j hlt wr HR.out (fun k s t b e h => Or.inr (Or.inr (Or.inr (by have h2 := HGJ.out; rw [h] at h2; injection h2)))) _ (fun a' w' hfr haj => ?_) _ AdFr.mk
    have HAJ := qh haj
    clear haj
    revert a'
    refine AdFr.all ?_
    intros
    go_wp2_with fail
    go_roundw
    case rel => exact ⟨j + 1, by omega, by go_num, HAJ⟩
    case measure => simp [intOf]; omega
   ·refine ad_k8 l IH.out A c w kb env gA lA pA eA gc lc pc en ec Ai ni ci cur base Z RW.out hl hc KDS.out htot hsz HST.out HEB.out hkb hbase HZ.out HLI j hlt wr HR.out (fun k s t b e h => by have h2 := HGJ.out; rw [h] at h2; injection h2) _ (fun a' w' hfr haj => ?_) _ AdFr.mk
    have HAJ := qh haj
    clear haj
    revert a'
    refine AdFr.all ?_
    intros
    go_wp2_with fail
    go_roundw
    case rel => exact ⟨j + 1, by omega, by go_num, HAJ⟩
    case measure => simp [intOf]; omega
  ·have e : j = l.length := by omega
   subst e
   obtain ⟨A0, n0, c0, cu0, hcj, hkbx, hgr, hkp⟩ := HR.out
   have CJ := qh hcj
   have KPR := qh hkp
   have KBR := qh hkbx
   have GRR := qh hgr
   clear HR hcj hkp hkbx hgr
   go_wp2_with fail
   refine bodyPost_end (results_none rfl _ _ _) rfl ?_
   have hcj := CJ.out
   rw [List.take_length] at hcj
   exact ⟨rfl, KPR.out, A0, n0, c0, cu0, hcj, KBR.out, GRR.out⟩
theorem impl_addStmts (l : List St) : AddC l := by
 have key : ∀ n, ∀ l : List St, snodess l ≤ n → AddC l := by
  intro n
  induction n with
  | zero =>
   intro l h
   refine ad_of l fun g hg k s t b e hge => ?_
   have := snodess_le hg
   subst hge
   rw [snodes] at this
   omega
  | succ n ih =>
   intro l h
   refine ad_of l fun g hg k s t b e hge => ?_
   have := snodess_le hg
   subst hge
   rw [snodes] at this
   exact ⟨ih b (by omega), ih e (by omega)⟩
 exact key _ l (Nat.le_refl _)
section
variable {P : Program} {ops : Array Oper} {Q : Exit → Act → World → Prop} {md : Region.Mode} {S : World → Prop} {n : Nat}
abbrev SkAt (P : Program) (md : Region.Mode) (ops : Array Oper) (Q : Exit → Act → World → Prop) (S : World → Prop) (n f : Nat) (listed : Array Bool) (a : Act) (w : World) (i : Nat) (o : Oper) : Prop :=
 ∀ K : Act → World → Prop, Shut (∀ a w, (i < n → S w) → wpSk P md ops Q S n f (listed.setIfInBounds i true) a w → K a w) → if Region.wanted o (yielded ops a.tmps) = true then Oper.wp P o a w K Q else K (a.put o.dst undef) w
theorem wpSk_or2 {i j : Nat} {oi oj : Oper} {f : Nat} {listed : Array Bool} {a : Act} {w : World} (hr : Region.ready md ops listed = [i, j]) (hi : ops[i]? = some oi) (hj : ops[j]? = some oj)
  (h1 : SkAt P md ops Q S n f listed a w i oi) (h2 : SkAt P md ops Q S n f listed a w j oj) : wpSk P md ops Q S n (f + 1) listed a w := by
 refine ⟨fun h0 => (by rw [hr] at h0; cases h0), fun k hk => ?_⟩
 rw [hr] at hk
 rcases List.mem_cons.1 hk with rfl | hk
 ·exact wpOp_step hi (fun K hK => h1 K (fun a w q1 q2 => hK a w ⟨q1, q2⟩))
 ·rw [List.mem_singleton.1 hk]
  exact wpOp_step hj (fun K hK => h2 K (fun a w q1 q2 => hK a w ⟨q1, q2⟩))
def SkIn (P : Program) (md : Region.Mode) (ops : Array Oper) (Q : Exit → Act → World → Prop) (S : World → Prop) (n f : Nat) (listed : Array Bool) (a : Act) (w : World) (i : Nat) : Prop :=
 (Region.ready md ops listed).contains i = true → ∃ o, ops[i]? = some o ∧ SkAt P md ops Q S n f listed a w i o
theorem skNo {i f : Nat} {listed : Array Bool} {a : Act} {w : World} (h : (Region.ready md ops listed).contains i = false := by kernel_rfl) : SkIn P md ops Q S n f listed a w i := fun h' => by rw [h] at h'; cases h'
theorem skYes (i : Nat) {f : Nat} {o : Oper} {listed : Array Bool} {a : Act} {w : World} (ho : ops[i]? = some o) (h : SkAt P md ops Q S n f listed a w i o) : SkIn P md ops Q S n f listed a w i := fun _ => ⟨o, ho, h⟩
theorem wpSk5 (i j k l m : Nat) {f : Nat} {listed : Array Bool} {a : Act} {w : World} (hr : ((Region.ready md ops listed).all (fun x => [i, j, k, l, m].contains x) && !(Region.ready md ops listed).isEmpty) = true)
  (h1 : SkIn P md ops Q S n f listed a w i) (h2 : SkIn P md ops Q S n f listed a w j) (h3 : SkIn P md ops Q S n f listed a w k) (h4 : SkIn P md ops Q S n f listed a w l) (h5 : SkIn P md ops Q S n f listed a w m) : wpSk P md ops Q S n (f + 1) listed a w := by
 rw [Bool.and_eq_true] at hr
 obtain ⟨hr, he⟩ := hr
 refine ⟨fun h0 => (by rw [h0] at he; cases he), fun x hx => ?_⟩
 have hc : (Region.ready md ops listed).contains x = true := by simpa using hx
 have hm : x ∈ [i, j, k, l, m] := by simpa using List.all_eq_true.1 hr x hx
 have go : ∀ y, SkIn P md ops Q S n f listed a w y → x = y → wpOp P ops Q x (fun a' w' => (x < n → S w') ∧ wpSk P md ops Q S n f (listed.setIfInBounds x true) a' w') a w := fun y h e => by
  subst e
  obtain ⟨o, ho, h⟩ := h hc
  exact wpOp_step ho (fun K hK => h K (fun a w q1 q2 => hK a w ⟨q1, q2⟩))
 simp only [List.mem_cons, List.not_mem_nil, or_false] at hm
 rcases hm with e | e | e | e | e
 all_goals first | exact go _ h1 e | exact go _ h2 e | exact go _ h3 e | exact go _ h4 e | exact go _ h5 e
end
end Go.Proofs.YtnmblfonmfjoeaaGreatDoor
