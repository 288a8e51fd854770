/- Lemmas for the row. -/
import Derived.Test.YtnmblfonmfjoeaaGreatDoorKc10
namespace Go.Proofs.YtnmblfonmfjoeaaGreatDoor
open Go.RowKit
set_option maxHeartbeats 6400000
set_option maxRecDepth 100000
set_option linter.unusedVariables false
theorem ad_k1 {x1 x2 x3 x4 : Value} (l : List St) (ih : ∀ g ∈ l, ∀ k s t b e, g = .mk k s t b e → AddC b ∧ AddC e) (A : Option Addr) (c : Nat) (w : World) (kb : Nat) (env : Env) (gA lA pA eA : Option Addr) (gc lc pc en ec : Nat) (Ai : Option Addr) (ni ci : Nat) (cur : List Ic) (base : Nat) (Z : Nat → Prop)
  (row : StRow (Fz base Z kb) w A l) (hl : l.length ≤ c) (hc : c ≤ maxLen) (hkd : kdSs l) (htot : totGs l ≤ 1048577) (hsz : cur.length + 2 * snodess l ≤ 100000)
  (hstr : StrsF (Fz base Z kb) w (.slice gA env.G.length gc) env.G ∧ StrsF (Fz base Z kb) w (.slice lA env.L.length lc) env.L ∧ StrsF (Fz base Z kb) w (.slice pA env.P.length pc) env.P) (henv : env.G.length ≤ 1000 ∧ env.L.length ≤ 1000 ∧ env.P.length ≤ 1000)
  (hkb : kb < base) (hbase : base ≤ w.heap.size) (hZ : ∀ b, Z b → b < w.heap.size) (HLI : Hid (cur.length = ni))
  (j : Nat) (hlt : j < l.length) (wr : World) (hrel : AdJ w wr kb env gA lA pA eA gc lc pc en ec ni cur base Z l j)
  (hkn : ∀ k s t b e, l[j] = .mk k s t b e → k = 1) (Q : Exit → Act → World → Prop) (hQ : ∀ a' w', AdFr (.pointer (some ⟨kb, 0, none⟩)) x1 x2 x3 x4 (.slice A l.length c) (.int .i64 (l.length : Int)) (.int .i64 ((j : Int) + 1)) a' → AdJ w w' kb env gA lA pA eA gc lc pc en ec ni cur base Z l (j + 1) → Q .normal a' w') : ∀ a, AdFr (.pointer (some ⟨kb, 0, none⟩)) x1 x2 x3 x4 (.slice A l.length c) (.int .i64 (l.length : Int)) (.int .i64 (j : Int)) a → Code.wp Tryz.prog adBody Q a wr := by
 have IH := qh ih
 have RW := qh row
 have KDS := qh hkd
 have HST := qh hstr
 have HEB := qh henv
 have HZ := qh hZ
 have HQ := qh hQ
 unfold maxLen at hc
 clear ih row hkd hstr henv hZ hQ
 obtain ⟨A0, n0, c0, cu0, hcj, hkbx, hgr, hkp⟩ := hrel
 have CJ := qh hcj
 have KPR := qh hkp
 have KBR := qh hkbx
 have GRR := qh hgr
 have HL0 : Hid (cu0.length = n0) := qh (by obtain ⟨_, _, e, _, _⟩ := hgr.slice; injection e with _ e; exact e.symm)
 have hwsz := hkp.size
 have hroom : n0 + 2 * snodes l[j] ≤ 100000 := by
  have h1 := emSs_here env ni l j hlt
  have h2 := HL0.out
  rw [hcj, List.length_append] at h2
  omega
 obtain ⟨b, off, x, rfl, hFb, ⟨d0, d1, d2, d3, d4, d5, d6, d7⟩, hst⟩ := rd_stmt (RW.out.keep (keep_cell hkp) (fun _ _ h => h)) hlt
 have hk1 := kdSs_mem KDS.out (List.getElem_mem hlt)
 have htg := totGs_ltE (List.getElem_mem hlt)
 have hkn' := hkn
 have hih := IH.out _ (List.getElem_mem hlt)
 generalize hG : l[j] = gj at hroom hst hk1 htg hih hkn'
 obtain ⟨xk, xs, tk, tn, ts, tA, tm, tc, bA, bm, bc, oA, om, oc⟩ := x
 obtain ⟨t, body, els, rfl, hki, hxs, htm, hbm, hb1, hb2, rowb, hem, he1, he2, rowe⟩ := hst.inv
 simp only at d0 d1 d2 d3 d4 d5 d6 d7 hki hxs htm hbm hb1 hb2 rowb hem he1 he2 rowe hG hroom hk1 htg hih
 clear hkn
 subst hbm hem
 have HG := qh hG
 rw [kdT] at hk1
 rw [totG] at htg
 rw [snodes] at hroom
 obtain ⟨hx1, hx8, hkdb, hkde⟩ := hk1
 obtain ⟨ihb, ihe⟩ := hih _ _ _ _ _ rfl
 have IHB := qh ihb
 have IHE := qh ihe
 have KDB := qh hkdb
 have KDE := qh hkde
 have HTB : Hid (totGs body ≤ 1048576) := qh (by omega)
 have HTE : Hid (totGs els ≤ 1048576) := qh (by omega)
 have HTT : Hid (totT t ≤ 1048576) := qh (by omega)
 have TMR := qh htm
 have RBR := qh rowb
 have RER := qh rowe
 clear hst hih hG hki hxs htm rowb rowe hkdb hkde ihb ihe htg hcj
 have hlb := cell_lt d0
 obtain ⟨sb, hsb⟩ : ∃ sb, wr.heap.size = sb := ⟨_, rfl⟩
 obtain ⟨Zs, hZsZ, hZsb, hZsi⟩ : ∃ Zs : Nat → Prop, (∀ b, Z b → Zs b) ∧ Zs sb ∧ ∀ b, Zs b → Z b ∨ b = sb := ⟨fun b => Z b ∨ b = sb, fun b h => .inl h, .inr rfl, fun b h => h⟩
 have hnsk : ¬ sb = kb := by omega
 have hnks : ¬ kb = sb := by omega
 obtain ⟨u0, hu0⟩ : ∃ u0, wr.alloc (.cells #[.int .i64 xk, .string xs, .int .i64 tk, .int .i64 tn, .string ts, .slice tA tm tc, .slice bA body.length bc, .slice oA els.length oc] 71) = u0 := ⟨_, rfl⟩
 have B0 : Hid (Below wr.heap.size wr u0) := qh (by rw [← hu0]; exact Below.alloc (Below.refl _ _) (Nat.le_refl _) _)
 have SB0 : Hid (u0.heap[sb]? = some (.cells #[.int .i64 xk, .string xs, .int .i64 tk, .int .i64 tn, .string ts, .slice tA tm tc, .slice bA body.length bc, .slice oA els.length oc] 71 (0, 0))) := qh (by rw [← hsb, ← hu0]; exact heap_alloc_new _ _)
 have KB0 := qh ((B0.out.block kb (lt_of_block KBR.out)).trans KBR.out)
 have GR0 : Hid (GrwI base Zs u0 (.slice A0 n0 c0) cu0) := qh ((GRR.out.zsub (fun b _ h2 h => (hZsi b h).elim id (fun e => by omega))).below IcP.keepP B0.out)
 have KP0 : Hid (Keep (Fz base Zs kb) u0 u0) := qh (Keep.refl _ _)
 have HZS0 : Hid (∀ b, Zs b → b < u0.heap.size) := qh (fun b h => by
  have h1 := lt_of_block SB0.out
  rcases hZsi b h with h | h
  ·have := HZ.out b h; have := B0.out.size; omega
  ·omega)
 have hz0 : wr.heap.size ≤ u0.heap.size := B0.out.size
 have hfz : ∀ b, b < wr.heap.size → Fz base Z kb b → Fz base Zs kb b := fun b _ h => ⟨h.1, h.2.imp id (hZsZ b)⟩
 have KW : Hid (Keep (Fz base Z kb) w u0) := qh (KPR.out.trans (Keep.of_below (S := Fz base Z kb) B0.out) (fun _ _ h => h))
 have SG0 := qh (HST.out.1.keep (keep_cell KW.out) (fun b hb h => (⟨h.1, h.2.imp id (hZsZ b)⟩ : Fz base Zs kb b)))
 have SL0 := qh (HST.out.2.1.keep (keep_cell KW.out) (fun b hb h => (⟨h.1, h.2.imp id (hZsZ b)⟩ : Fz base Zs kb b)))
 have SP0 := qh (HST.out.2.2.keep (keep_cell KW.out) (fun b hb h => (⟨h.1, h.2.imp id (hZsZ b)⟩ : Fz base Zs kb b)))
 have TM0 := qh (TMR.out.keep (keep_cell (Keep.of_below (S := Fz base Z kb) B0.out)) (F' := Fz base Zs kb) (fun b hb h => hfz b hb h))
 have RB0 := qh (RBR.out.keep (keep_cell (Keep.of_below (S := Fz base Z kb) B0.out)) (F' := Fz base Zs kb) (fun b hb h => hfz b hb h))
 have RE0 := qh (RER.out.keep (keep_cell (Keep.of_below (S := Fz base Z kb) B0.out)) (F' := Fz base Zs kb) (fun b hb h => hfz b hb h))
 clear KBR GRR TMR RBR RER hfz
 obtain rfl : xk = 1 := hkn' _ _ _ _ _ rfl
 clear hkn'
 refine AdFr.all ?_
 intros
 conv => arg 2; whnf
 obtain ⟨k00, k01, k02, k03, k04, f03, f04⟩ := box5 KB0.out
 obtain ⟨s00, s01, s02, s03, s04, s05, s06, s07⟩ := cells8 SB0.out
 have hk0 := lt_of_block KB0.out
 have hs0 := lt_of_block SB0.out
 have BD0 : Hid (Below u0.heap.size u0 u0.drew) := qh (Below.refl _ _).drew
 have TMD0 := qh ((TM0.out.keep (keep_cell KP0.out) (fun _ _ h => h)).any.belowA BD0.out)
 have ISF0 := qh (SG0.out.keep (keep_cell KP0.out) (fun _ _ h => h))
 have IS0 := qh (ISF0.out.keep (keep_cell (Keep.of_below (S := Fz base Zs kb) BD0.out)) (fun _ _ h => h)).is
 go_upto_region 7 with fail
 have tst1 : n0 + 1 ≤ 2000000 := by omega
 have hS0 : (SpJ kb sb (.slice gA env.G.length gc) (.slice lA env.L.length lc) (.slice pA env.P.length pc) (.slice A0 n0 c0) (.string xs) (.int .i64 tk) (.int .i64 tn) (.string ts) (.slice tA tm tc) u0.drew) := spJ_of KB0.out SB0.out
 refine wp_region_noPanic ?_
 refine wp_region_sk (fun w' => w'.cell? ⟨kb, 0, none⟩ = some (.slice gA env.G.length gc) ∧ w'.cell? ⟨kb, 1, none⟩ = some (.slice lA env.L.length lc) ∧ w'.cell? ⟨kb, 2, none⟩ = some (.slice pA env.P.length pc) ∧ w'.cell? ⟨kb, 4, none⟩ = some (.slice A0 n0 c0) ∧ w'.cell? ⟨sb, 1, none⟩ = some (.string xs) ∧ w'.cell? ⟨sb, 2, none⟩ = some (.int .i64 tk) ∧ w'.cell? ⟨sb, 3, none⟩ = some (.int .i64 tn) ∧ w'.cell? ⟨sb, 4, none⟩ = some (.string ts) ∧ w'.cell? ⟨sb, 5, none⟩ = some (.slice tA tm tc) ∧ kb < w'.heap.size ∧ sb < w'.heap.size) 20 (by kernel_rfl) hS0 (fun hHeld => ?_)
 refine skT 0 ?_
 refine skT 1 ?_
 refine skT 2 ?_
 refine skT 3 ?_
 refine skT 4 ?_
 refine skT 5 ?_
 refine skT 6 ?_
 refine skT 7 ?_
 refine skT 8 ?_
 refine skT 9 ?_
 refine skT 10 ?_
 refine skT 12 ?_
 refine skT 13 ?_
 refine wpSk_step (i := 11) (by kernel_rfl) rfl (fun K hK => ?_)
 go_simp
 have hcl := impl_PlaceOf (.slice gA env.G.length gc) env.G xs _ (by first | exact IS0.out | exact ISY0.out); refine hcl.mono ?_; clear hcl; rintro e w' ⟨rfl, rfl⟩
 refine hK.out _ _ (fun _ => hHeld) ?_
 clear hK K
 try simp only [Act.put, layS, layZ, layC]
 refine wpSk_step (i := 14) (by kernel_rfl) rfl (fun K hK => ?_)
 go_simp
 have hcl := impl_copyTerm t tk tn ts tA tm tc u0.drew TMD0.out HTT.out; refine hcl.mono ?_; clear hcl; rintro e wY0 ⟨k2, m2, s2, A2, q2, c2, rfl, ht2, b2⟩; have T2 := qh ht2; have BY0 : Hid (Below u0.heap.size u0 wY0) := qh (below_then BD0.out b2); have ISY0 := qh (ISF0.out.keep (keep_cell (Keep.of_below (S := Fz base Zs kb) BY0.out)) (fun _ _ h => h)).is; have KY0 := qh ((BY0.out.block kb hk0).trans KB0.out); have SY0 := qh ((BY0.out.block sb hs0).trans SB0.out); obtain ⟨z0, z1, z2, z3, z4, zf3, zf4⟩ := box5 KY0.out; obtain ⟨r0, r1, r2, r3, r4, r5, r6, r7⟩ := cells8 SY0.out; have hky := lt_of_block KY0.out; have hsy := lt_of_block SY0.out; obtain ⟨cs0, G0, hat0⟩ := GR0.out; have HAT0 := qh hat0; have OW0 := qh (hat0.ow.keep (Keep.of_below (S := fun _ => True) BY0.out) (fun _ _ => trivial)).own; rw [HL0.out] at OW0; clear hat0; clear ht2 b2
 have hNew : (SpJ kb sb (.slice gA env.G.length gc) (.slice lA env.L.length lc) (.slice pA env.P.length pc) (.slice A0 n0 c0) (.string xs) (.int .i64 tk) (.int .i64 tn) (.string ts) (.slice tA tm tc) wY0) := spJ_of KY0.out SY0.out
 refine hK.out _ _ (fun _ => hNew) ?_
 clear hK K hHeld
 have hHeld := hNew
 clear hNew
 try simp only [Act.put, layS, layZ, layC]
 refine skT 15 ?_
 refine wpSk_step (i := 16) (by kernel_rfl) rfl (fun K hK => ?_)
 go_simp
 refine hK.out _ _ (fun _ => (show (SpJ kb sb (.slice gA env.G.length gc) (.slice lA env.L.length lc) (.slice pA env.P.length pc) (.slice A0 n0 c0) (.string xs) (.int .i64 tk) (.int .i64 tn) (.string ts) (.slice tA tm tc) wY0) from hHeld).alloc _) ?_
 clear hK K hHeld
 try simp only [Act.put, layS, layZ, layC]
 refine wpSk_step (i := 17) (by kernel_rfl) rfl (fun K hK => ?_)
 refine step_appG _ inT (by rfl) _ _ (by rfl) (by rfl) (OW0.out.alloc _) _ 1 1 [.int .i64 1, .int .i64 (placeS env.G xs), .int .i64 k2, .int .i64 m2, .string s2, .slice A2 q2 c2, .int .i64 0] (by rfl) (by first | exact Rd.new _ 7 1 _ _ rfl | exact (Rd.new _ 7 1 _ _ rfl).drew) (by simp [Value.oneCell']) tst1 (by decide) ?_
 intro v' wz0 own' gr'
 have GZ0' : Grew (.slice A0 n0 c0) v' wY0 wz0 := (Grew.of_below (Below.alloc (Below.refl _ _) (Nat.le_refl _) _)).trans gr'
 have hog : (Value.slice A0 n0 c0).ownBlock ≠ some kb := (fun e => by have := (HAT0.out.ow.lt kb e).1; omega)
 have KZ0 := qh ((GZ0'.keep.block kb (lt_of_block KY0.out) hog).trans KY0.out)
 have hogs : (Value.slice A0 n0 c0).ownBlock ≠ some sb := (fun e => HAT0.out.clear sb e hZsb)
 have SZ0 := qh ((GZ0'.keep.block sb (lt_of_block SY0.out) hogs).trans SY0.out)
 have hNew : (SpJ kb sb (.slice gA env.G.length gc) (.slice lA env.L.length lc) (.slice pA env.P.length pc) (.slice A0 n0 c0) (.string xs) (.int .i64 tk) (.int .i64 tn) (.string ts) (.slice tA tm tc) wz0) := spJ_of KZ0.out SZ0.out
 obtain ⟨A1, c1, rfl, _⟩ := own'.slice
 obtain ⟨n1, hn1⟩ : ∃ n, n0 + 1 = n := ⟨_, rfl⟩
 rw [hn1] at own' GZ0' ⊢
 have HNN0 : Hid (cu0.length + 1 = n1) := qh (by rw [HL0.out]; exact hn1)
 have OWN0 : Hid (Own (cutX base wY0) wz0 45 7 (.slice A1 n1 c1) (cu0.length + 1) (cs0.flatten ++ [.int .i64 1, .int .i64 (placeS env.G xs), .int .i64 k2, .int .i64 m2, .string s2, .slice A2 q2 c2, .int .i64 0])) := qh (by rw [HNN0.out]; exact own')
 have GZ0 := qh GZ0'
 clear own' gr' GZ0' hn1
 refine hK.out _ _ (fun _ => hNew) ?_
 clear hK K
 have hHeld := hNew
 clear hNew
 try simp only [Act.put, layS, layZ, layC]
 refine skT 18 ?_
 refine skT 19 ?_
 clear hHeld hS0
 obtain ⟨y00, y01, y02, y03, y04, yf03, yf04⟩ := box5 KZ0.out
 have hy0 := lt_of_block KZ0.out
 refine wpSk_step (i := 20) (by kernel_rfl) rfl (fun K hK => ?_)
 go_simp
 refine hK.out _ _ (fun h => absurd h (by decide)) ?_
 clear hK K
 refine wpSk_done (by kernel_rfl) ?_ _
 refine NoPanic.normal ?_
 clear k00 k01 k02 k03 k04 f03 f04 s00 s01 s02 s03 s04 s05 s06 s07 hk0 hs0
 clear tst1 y00 y01 y02 y03 y04 yf03 yf04 hy0
 clear z0 z1 z2 z3 z4 zf3 zf4 r0 r1 r2 r3 r4 r5 r6 r7 hky hsy
 have DONE := grwi_app (o := 4) hkb HAT0.out BY0.out (icP_term 1 (placeS env.G xs) (by unfold i64in; omega) (placeS_in _ _ (by have := HEB.out; omega)) T2.out) (fun b hb => hb) HZS0.out OWN0.out GZ0.out (.slice A1 n1 c1)
 have HN1 : Hid (cu0.length + 1 = n1) := qh HNN0.out
 obtain ⟨cu1, hcu1⟩ : ∃ cu, cu0 ++ [⟨1, (placeS env.G xs), t, 0⟩] = cu := ⟨_, rfl⟩
 rw [hcu1] at DONE
 have HC1 := qh hcu1
 have HL1 : Hid (cu1.length = n1) := qh (by rw [← hcu1, ← HN1.out]; simp)
 clear hcu1
 have KB1 : Hid ((wz0.setCell ⟨kb, 4, none⟩ (.slice A1 n1 c1)).heap[kb]? = some (.cells #[.slice gA env.G.length gc, .slice lA env.L.length lc, .slice pA env.P.length pc, .slice eA en ec, .slice A1 n1 c1] 32 (0, 0))) := qh (s5_4 ((DONE.2.2 kb (.inr hkb)).trans KB0.out) _)
 have SB1 : Hid ((wz0.setCell ⟨kb, 4, none⟩ (.slice A1 n1 c1)).heap[sb]? = some (.cells #[.int .i64 1, .string xs, .int .i64 tk, .int .i64 tn, .string ts, .slice tA tm tc, .slice bA body.length bc, .slice oA els.length oc] 71 (0, 0))) := qh ((Below.heap_setCell wz0 ⟨kb, 4, none⟩ _ sb hnsk).trans ((DONE.2.2 sb (.inl hZsb)).trans SB0.out))
 have GR1 := qh DONE.1
 have KP1 := qh (KP0.out.trans DONE.2.1 (fun _ _ h => h))
 clear DONE
 obtain ⟨u1, hu1⟩ : ∃ u, wz0.setCell ⟨kb, 4, none⟩ (.slice A1 n1 c1) = u := ⟨_, rfl⟩
 rw [hu1] at KB1 SB1 GR1 KP1 ⊢
 have hu1z : u0.heap.size ≤ u1.heap.size := KP1.out.size
 have HZS1 : Hid (∀ b, Zs b → b < u1.heap.size) := qh (fun b hb => Nat.lt_of_lt_of_le (HZS0.out b hb) hu1z)
 have hub1 : n1 ≤ n0 + 1 := by have := HN1.out; have := HL0.out; omega
 have hlw1 : n0 + 1 ≤ n1 := by have := HN1.out; have := HL0.out; omega
 clear hu1
 go_wp2_with fail
 have hfin : cu1 = cu0 ++ emT env n0 (.mk 1 xs t body els) := by
  rw [← HC1.out, emT_one _ _ _ _ _ _ _ (by decide) (by decide)]; rfl
 refine HQ.out _ _ AdFr.mk ⟨A1, n1, c1, cu1, ?_, KB1.out, GR1.out.zsub (fun b _ _ h => hZsZ b h), (KPR.out.trans (Keep.of_below (S := Fz base Z kb) B0.out) (fun _ _ h => h)).trans (KP1.out.mono (fun b _ h => ⟨h.1, h.2.imp id (hZsZ b)⟩)) (fun _ _ h => h)⟩
 rw [List.take_succ_eq_append_getElem hlt, HG.out, emSs_snoc, ← List.append_assoc, ← CJ.out, hfin]
 have h1 : ni + (emSs env ni (l.take j)).length = n0 := by have h2 := HL0.out; rw [CJ.out, List.length_append, HLI.out] at h2; exact h2
 rw [h1]
theorem ad_if0 {x1 x2 x3 x4 x8 x9 x10 : Value} (tk tn : Int) (xs ts : ByteArray) (tA bA oA : Option Addr) (tm tc bc oc : Nat) (t : Tm) (body els : List St) (kb sb : Nat) (env : Env) (gA lA pA eA : Option Addr) (gc lc pc en ec : Nat) (base : Nat) (Zs : Nat → Prop) (hkb : kb < base) (hnsk : ¬ sb = kb) (hnks : ¬ kb = sb) (hZsb : Zs sb)
  (u0 u2 : World) (n0 n1 n2 c2 : Nat) (A2 : Option Addr) (cu0 cu1 cu2 : List Ic) (hbz : base ≤ u0.heap.size) (HZS0 : Hid (∀ b, Zs b → b < u0.heap.size)) (hs2 : sb < u0.heap.size)
  (HL0 : Hid (cu0.length = n0)) (HC1 : Hid (cu0 ++ [⟨2, 0, t, 0⟩] = cu1)) (HL1 : Hid (cu1.length = n1)) (HC2 : Hid (cu2 = cu1 ++ emSs env n1 body)) (HL2 : Hid (cu2.length = n2))
  (hroom : n2 + 2 * snodess els ≤ 100000 + 100000) (hroom1 : n2 + 2 * snodess els + 1 ≤ 100000) (h02 : n0 < n2)
  (KB2 : Hid (u2.heap[kb]? = some (.cells #[.slice gA env.G.length gc, .slice lA env.L.length lc, .slice pA env.P.length pc, .slice eA en ec, .slice A2 n2 c2] 32 (0, 0)))) (SB2 : Hid (u2.heap[sb]? = some (.cells #[.int .i64 2, .string xs, .int .i64 tk, .int .i64 tn, .string ts, .slice tA tm tc, .slice bA body.length bc, .slice oA els.length oc] 71 (0, 0)))) (GR2 : Hid (GrwI base Zs u2 (.slice A2 n2 c2) cu2)) (KP2 : Hid (Keep (Fz base Zs kb) u0 u2))
  (h0e : Hid (els.length = 0)) : ∀ a, AdF2 (.pointer (some ⟨kb, 0, none⟩)) x1 x2 x3 x4 (.pointer (some ⟨sb, 0, none⟩)) (.int .i64 (n0 : Int)) x8 x9 x10 (.bool (decide (0 < els.length))) a → Code.wp Tryz.prog adIf (fun e a' w' => e = .normal ∧ AdFr (.pointer (some ⟨kb, 0, none⟩)) x1 x2 x3 x4 x8 x9 x10 a' ∧ IfJ u0 w' xs tk tn ts tA bA oA tm tc bc oc t body els kb sb env gA lA pA eA gc lc pc en ec base Zs n0 cu0) a u2 := by
 rw [show decide (0 < els.length) = false from decide_eq_false (by have := h0e.out; omega)]
 refine AdF2.all ?_
 intros
 conv => arg 2; whnf
 have hu2z : u0.heap.size ≤ u2.heap.size := KP2.out.size
 have HZS2 : Hid (∀ b, Zs b → b < u2.heap.size) := qh (fun b hb => Nat.lt_of_lt_of_le (HZS0.out b hb) hu2z)
 obtain ⟨k20, k21, k22, k23, k24, f23, f24⟩ := box5 KB2.out
 obtain ⟨s20, s21, s22, s23, s24, s25, s26, s27⟩ := cells8 SB2.out
 have hk2 := lt_of_block KB2.out
 have hs2 := lt_of_block SB2.out
 have hat2 : n0 < cu2.length := by have := HL2.out; omega
 obtain ⟨-, ob2, hob2, hol2, hobb2, hoz2, hof2, ⟨old2, hoc2⟩, hto2⟩ := grwi_to GR2.out hat2
 have HTO2 := qh (hto2 (n2 : Int) (by unfold i64in; omega))
 have HOZ2 := qh hoz2
 have HAT2 := qh hat2
 have hof6 := hof2 (n0 * 7 + 6)
 have hn6 : (n0 : Int) < (n2 : Int) := by have := HL2.out; omega
 have hn0 : (0 : Int) ≤ (n0 : Int) := by omega
 subst hob2
 clear hto2 hoz2 hof2
 have hobk : kb ≠ ob2 := by omega
 have hobk' : ob2 ≠ kb := by omega
 go_upto_region 22 with fail
 go_region_held3 (fun w' => w'.cell? ⟨kb, 4, none⟩ = some (.slice (some ⟨ob2, 0, none⟩) n2 c2) ∧ kb < w'.heap.size)
  (first | (with_reducible assumption) | exact ⟨k24, hk2⟩ | exact ⟨(World.cell?_setCell_other _ _ _ _ (by simp [hobk, hobk'])).trans k24, by simpa using hk2⟩)
  (first | fail)
 obtain ⟨u3, hu3⟩ : ∃ u, (u2.setCell ⟨ob2, n0 * 7 + 6, none⟩ (.int .i64 (n2 : Int))).drew = u := ⟨_, rfl⟩
 have hkq : ∀ b, b ≠ ob2 → u3.heap[b]? = u2.heap[b]? := fun b hb => by rw [← hu3]; exact Below.heap_setCell u2 ⟨ob2, n0 * 7 + 6, none⟩ _ b hb
 have hobs : sb ≠ ob2 := fun e => HOZ2.out (by rw [← e]; exact hZsb)
 have KB3 := qh ((hkq kb hobk).trans KB2.out)
 have SB3 := qh ((hkq sb hobs).trans SB2.out)
 obtain ⟨cu3, hcu3⟩ : ∃ cu, cu2.set n0 ⟨(cu2[n0]'HAT2.out).op, (cu2[n0]'HAT2.out).arg, (cu2[n0]'HAT2.out).term, (n2 : Int)⟩ = cu := ⟨_, rfl⟩
 have HC3 := qh hcu3
 have HL3 : Hid (cu3.length = n2) := qh (by rw [← hcu3, List.length_set]; exact HL2.out)
 have GR3 : Hid (GrwI base Zs u3 (.slice (some ⟨ob2, 0, none⟩) n2 c2) cu3) := qh (by
  rw [← hcu3, ← hu3]
  exact GrwX.below IcP.keepP HTO2.out (Below.refl _ _).drew)
 have KP3 : Hid (Keep (Fz base Zs kb) u0 u3) := qh (by
  rw [← hu3]
  exact (KP2.out.setCell (p := ⟨ob2, n0 * 7 + 6, none⟩) (fun h => h.2.elim (fun h => absurd (show ob2 < base from h) (by omega)) HOZ2.out) _).trans (Keep.of_below (S := Fz base Zs kb) (Below.refl _ _).drew) (fun _ _ h => h))
 rw [hu3]
 have hu3z : u0.heap.size ≤ u3.heap.size := KP3.out.size
 have HZS3 : Hid (∀ b, Zs b → b < u3.heap.size) := qh (fun b hb => Nat.lt_of_lt_of_le (HZS0.out b hb) hu3z)
 clear k20 k21 k22 k23 k24 f23 f24 s20 s21 s22 s23 s24 s25 s26 s27 hk2 hs2
 clear hol2 hobb2 hoc2 hof6 hn6 hn0 hkq hobk hobk' hobs hu3 hcu3
 go_wp2_with fail
 have hfin := if0_fin (s := xs) h0e.out HL0.out HC1.out HL1.out HC2.out HL2.out HAT2.out HC3.out
 exact ⟨AdFr.mk, (some ⟨ob2, 0, none⟩), n2, c2, cu3, hfin, KB3.out, SB3.out, GR3.out, KP3.out⟩
theorem ad_if1 {x1 x2 x3 x4 x8 x9 x10 : Value} (tk tn : Int) (xs ts : ByteArray) (tA bA oA : Option Addr) (tm tc bc oc : Nat) (t : Tm) (body els : List St) (kb sb : Nat) (env : Env) (gA lA pA eA : Option Addr) (gc lc pc en ec : Nat) (base : Nat) (Zs : Nat → Prop) (hkb : kb < base) (hnsk : ¬ sb = kb) (hnks : ¬ kb = sb) (hZsb : Zs sb)
  (u0 u2 : World) (n0 n1 n2 c2 : Nat) (A2 : Option Addr) (cu0 cu1 cu2 : List Ic) (hbz : base ≤ u0.heap.size) (HZS0 : Hid (∀ b, Zs b → b < u0.heap.size)) (hs2 : sb < u0.heap.size)
  (HL0 : Hid (cu0.length = n0)) (HC1 : Hid (cu0 ++ [⟨2, 0, t, 0⟩] = cu1)) (HL1 : Hid (cu1.length = n1)) (HC2 : Hid (cu2 = cu1 ++ emSs env n1 body)) (HL2 : Hid (cu2.length = n2))
  (hroom : n2 + 2 * snodess els ≤ 100000 + 100000) (hroom1 : n2 + 2 * snodess els + 1 ≤ 100000) (h02 : n0 < n2)
  (KB2 : Hid (u2.heap[kb]? = some (.cells #[.slice gA env.G.length gc, .slice lA env.L.length lc, .slice pA env.P.length pc, .slice eA en ec, .slice A2 n2 c2] 32 (0, 0)))) (SB2 : Hid (u2.heap[sb]? = some (.cells #[.int .i64 2, .string xs, .int .i64 tk, .int .i64 tn, .string ts, .slice tA tm tc, .slice bA body.length bc, .slice oA els.length oc] 71 (0, 0)))) (GR2 : Hid (GrwI base Zs u2 (.slice A2 n2 c2) cu2)) (KP2 : Hid (Keep (Fz base Zs kb) u0 u2))
  (h0e : Hid (¬ els.length = 0)) (IHE : Hid (AddC els)) (RE0 : Hid (StRow (Fz base Zs kb) u0 oA els)) (he1 : els.length ≤ oc) (he2 : oc ≤ maxLen) (KDE : Hid (kdSs els)) (HTE : Hid (totGs els ≤ 1048576))
  (SG0 : Hid (StrsF (Fz base Zs kb) u0 (.slice gA env.G.length gc) env.G)) (SL0 : Hid (StrsF (Fz base Zs kb) u0 (.slice lA env.L.length lc) env.L)) (SP0 : Hid (StrsF (Fz base Zs kb) u0 (.slice pA env.P.length pc) env.P)) (HEB : Hid (env.G.length ≤ 1000 ∧ env.L.length ≤ 1000 ∧ env.P.length ≤ 1000)) : ∀ a, AdF2 (.pointer (some ⟨kb, 0, none⟩)) x1 x2 x3 x4 (.pointer (some ⟨sb, 0, none⟩)) (.int .i64 (n0 : Int)) x8 x9 x10 (.bool (decide (0 < els.length))) a → Code.wp Tryz.prog adIf (fun e a' w' => e = .normal ∧ AdFr (.pointer (some ⟨kb, 0, none⟩)) x1 x2 x3 x4 x8 x9 x10 a' ∧ IfJ u0 w' xs tk tn ts tA bA oA tm tc bc oc t body els kb sb env gA lA pA eA gc lc pc en ec base Zs n0 cu0) a u2 := by
 rw [show decide (0 < els.length) = true from decide_eq_true (by have := h0e.out; omega)]
 refine AdF2.all ?_
 intros
 conv => arg 2; whnf
 have hu2z : u0.heap.size ≤ u2.heap.size := KP2.out.size
 have HZS2 : Hid (∀ b, Zs b → b < u2.heap.size) := qh (fun b hb => Nat.lt_of_lt_of_le (HZS0.out b hb) hu2z)
 obtain ⟨k20, k21, k22, k23, k24, f23, f24⟩ := box5 KB2.out
 obtain ⟨s20, s21, s22, s23, s24, s25, s26, s27⟩ := cells8 SB2.out
 have hk2 := lt_of_block KB2.out
 have hs2 := lt_of_block SB2.out
 obtain ⟨cs2, G2, hat2⟩ := GR2.out; have HAT2 := qh hat2; have OW2 := qh (hat2.ow.keep (Keep.of_below (S := fun _ => True) (Below.refl _ _)) (fun _ _ => trivial)).own; rw [HL2.out] at OW2; clear hat2
 have tst1 : n2 + 1 ≤ maxLen := by simp only [maxLen]; omega
 have tst2 : (n2 + 1) * 80 ≤ 140737488355328 := by omega
 go_wp2_with (at_builtin; refine wpList_appG_new u2.heap.size rfl rfl _ _ _ rfl inT OW2.out _ 1 rfl rfl rfl (by simp [Value.oneCell']) tst1 tst2 ?_; intro v7 wz2 own7 gr7; have hne2 : ∀ b, b = kb → (Value.slice A2 n2 c2).ownBlock ≠ some b := (fun b e1 e2 => by have := (HAT2.out.ow.lt b e2).1; omega); have KZ2 := qh ((gr7.keep.block kb hk2 (hne2 kb rfl)).trans KB2.out); obtain ⟨y20, y21, y22, y23, y24, yf23, yf24⟩ := box5 KZ2.out; have hy2 := lt_of_block KZ2.out; have hsl2 := own7.slice; obtain ⟨A3, c3, rfl, _⟩ := hsl2; obtain ⟨n3, hn3⟩ : ∃ n, n2 + 1 = n := ⟨_, rfl⟩; rw [hn3] at own7 gr7 ⊢; have HNN2 : Hid (cu2.length + 1 = n3) := qh (by rw [HL2.out]; exact hn3); have OWN2 : Hid (Own (cutX base u2) wz2 45 7 (.slice A3 n3 c3) (cu2.length + 1) (cs2.flatten ++ [.int .i64 3, .int .i64 0, .int .i64 0, .int .i64 0, .string ⟨#[]⟩, .slice none 0 0, .int .i64 0])) := qh (by rw [HNN2.out]; exact own7); have GZ2 := qh gr7; clear own7 gr7 hn3)
 clear k20 k21 k22 k23 k24 f23 f24 s20 s21 s22 s23 s24 s25 s26 s27 hk2 hs2
 clear tst1 tst2 y20 y21 y22 y23 y24 yf23 yf24 hy2
 have DONE := grwi_app (o := 4) hkb HAT2.out (Below.refl _ _) (icP_zero _ 3 0 0 (by unfold i64in; omega) (by unfold i64in; omega) (by unfold i64in; omega)) (fun b hb => hb.elim) HZS2.out OWN2.out GZ2.out (.slice A3 n3 c3)
 have HN3 : Hid (cu2.length + 1 = n3) := qh HNN2.out
 obtain ⟨cu3, hcu3⟩ : ∃ cu, cu2 ++ [⟨3, 0, zeroTm, 0⟩] = cu := ⟨_, rfl⟩
 rw [hcu3] at DONE
 have HC3 := qh hcu3
 have HL3 : Hid (cu3.length = n3) := qh (by rw [← hcu3, ← HN3.out]; simp)
 clear hcu3
 have KB3 : Hid ((wz2.setCell ⟨kb, 4, none⟩ (.slice A3 n3 c3)).heap[kb]? = some (.cells #[.slice gA env.G.length gc, .slice lA env.L.length lc, .slice pA env.P.length pc, .slice eA en ec, .slice A3 n3 c3] 32 (0, 0))) := qh (s5_4 ((DONE.2.2 kb (.inr hkb)).trans KB2.out) _)
 have SB3 : Hid ((wz2.setCell ⟨kb, 4, none⟩ (.slice A3 n3 c3)).heap[sb]? = some (.cells #[.int .i64 2, .string xs, .int .i64 tk, .int .i64 tn, .string ts, .slice tA tm tc, .slice bA body.length bc, .slice oA els.length oc] 71 (0, 0))) := qh ((Below.heap_setCell wz2 ⟨kb, 4, none⟩ _ sb hnsk).trans ((DONE.2.2 sb (.inl hZsb)).trans SB2.out))
 have GR3 := qh DONE.1
 have KP3 := qh (KP2.out.trans DONE.2.1 (fun _ _ h => h))
 clear DONE
 obtain ⟨u3, hu3⟩ : ∃ u, wz2.setCell ⟨kb, 4, none⟩ (.slice A3 n3 c3) = u := ⟨_, rfl⟩
 rw [hu3] at KB3 SB3 GR3 KP3 ⊢
 have hu3z : u0.heap.size ≤ u3.heap.size := KP3.out.size
 have HZS3 : Hid (∀ b, Zs b → b < u3.heap.size) := qh (fun b hb => Nat.lt_of_lt_of_le (HZS0.out b hb) hu3z)
 have hub3 : n3 ≤ n2 + 1 := by have := HN3.out; have := HL2.out; omega
 have hlw3 : n2 + 1 ≤ n3 := by have := HN3.out; have := HL2.out; omega
 clear hu3
 obtain ⟨k30, k31, k32, k33, k34, f33, f34⟩ := box5 KB3.out
 obtain ⟨s30, s31, s32, s33, s34, s35, s36, s37⟩ := cells8 SB3.out
 have hk3 := lt_of_block KB3.out
 have hs3 := lt_of_block SB3.out
 have hat3 : n0 < cu3.length := by have := HL3.out; omega
 obtain ⟨-, ob3, hob3, hol3, hobb3, hoz3, hof3, ⟨old3, hoc3⟩, hto3⟩ := grwi_to GR3.out hat3
 have HTO3 := qh (hto3 (n3 : Int) (by unfold i64in; omega))
 have HOZ3 := qh hoz3
 have HAT3 := qh hat3
 have hof6 := hof3 (n0 * 7 + 6)
 have hn6 : (n0 : Int) < (n3 : Int) := by have := HL3.out; omega
 have hn0 : (0 : Int) ≤ (n0 : Int) := by omega
 subst hob3
 clear hto3 hoz3 hof3
 have hobk : kb ≠ ob3 := by omega
 have hobk' : ob3 ≠ kb := by omega
 go_upto_region 19 with fail
 go_region_held3 (fun w' => w'.cell? ⟨kb, 4, none⟩ = some (.slice (some ⟨ob3, 0, none⟩) n3 c3) ∧ kb < w'.heap.size)
  (first | (with_reducible assumption) | exact ⟨k34, hk3⟩ | exact ⟨(World.cell?_setCell_other _ _ _ _ (by simp [hobk, hobk'])).trans k34, by simpa using hk3⟩)
  (first | fail)
 obtain ⟨u4, hu4⟩ : ∃ u, (u3.setCell ⟨ob3, n0 * 7 + 6, none⟩ (.int .i64 (n3 : Int))).drew = u := ⟨_, rfl⟩
 have hkq : ∀ b, b ≠ ob3 → u4.heap[b]? = u3.heap[b]? := fun b hb => by rw [← hu4]; exact Below.heap_setCell u3 ⟨ob3, n0 * 7 + 6, none⟩ _ b hb
 have hobs : sb ≠ ob3 := fun e => HOZ3.out (by rw [← e]; exact hZsb)
 have KB4 := qh ((hkq kb hobk).trans KB3.out)
 have SB4 := qh ((hkq sb hobs).trans SB3.out)
 obtain ⟨cu4, hcu4⟩ : ∃ cu, cu3.set n0 ⟨(cu3[n0]'HAT3.out).op, (cu3[n0]'HAT3.out).arg, (cu3[n0]'HAT3.out).term, (n3 : Int)⟩ = cu := ⟨_, rfl⟩
 have HC4 := qh hcu4
 have HL4 : Hid (cu4.length = n3) := qh (by rw [← hcu4, List.length_set]; exact HL3.out)
 have GR4 : Hid (GrwI base Zs u4 (.slice (some ⟨ob3, 0, none⟩) n3 c3) cu4) := qh (by
  rw [← hcu4, ← hu4]
  exact GrwX.below IcP.keepP HTO3.out (Below.refl _ _).drew)
 have KP4 : Hid (Keep (Fz base Zs kb) u0 u4) := qh (by
  rw [← hu4]
  exact (KP3.out.setCell (p := ⟨ob3, n0 * 7 + 6, none⟩) (fun h => h.2.elim (fun h => absurd (show ob3 < base from h) (by omega)) HOZ3.out) _).trans (Keep.of_below (S := Fz base Zs kb) (Below.refl _ _).drew) (fun _ _ h => h))
 rw [hu4]
 have hu4z : u0.heap.size ≤ u4.heap.size := KP4.out.size
 have HZS4 : Hid (∀ b, Zs b → b < u4.heap.size) := qh (fun b hb => Nat.lt_of_lt_of_le (HZS0.out b hb) hu4z)
 clear k30 k31 k32 k33 k34 f33 f34 s30 s31 s32 s33 s34 s35 s36 s37 hk3 hs3
 clear hol3 hobb3 hoc3 hof6 hn6 hn0 hkq hobk hobk' hobs hu4 hcu4
 obtain ⟨k40, k41, k42, k43, k44, f43, f44⟩ := box5 KB4.out
 obtain ⟨s40, s41, s42, s43, s44, s45, s46, s47⟩ := cells8 SB4.out
 have hk4 := lt_of_block KB4.out
 have hs4 := lt_of_block SB4.out
 go_wp2_with fail
 have hcl := IHE.out oA oc u4 kb env gA lA pA eA gc lc pc en ec (some ⟨ob3, 0, none⟩) n3 c3 cu4 base Zs (RE0.out.keep (keep_cell KP4.out) (fun _ _ h => h)) he1 he2 KDE.out (by have := HTE.out; omega) (by have := HL4.out; omega) ⟨SG0.out.keep (keep_cell KP4.out) (fun _ _ h => h), SL0.out.keep (keep_cell KP4.out) (fun _ _ h => h), SP0.out.keep (keep_cell KP4.out) (fun _ _ h => h)⟩ HEB.out hkb (by omega) HZS4.out KB4.out GR4.out
 refine hcl.mono ?_
 clear hcl
 rintro e u5 ⟨rfl, kp5, A5, n5, c5, cu5, hcu5, hkb5, hgr5⟩
 have HC5 := qh hcu5
 have KB5 := qh hkb5
 have GR5 := qh hgr5
 have HL5 : Hid (cu5.length = n5) := qh (by obtain ⟨_, _, e, _, _⟩ := hgr5.slice; injection e with _ e; exact e.symm)
 have SB5 := qh ((kp5.block sb hs4 ⟨hnsk, .inr hZsb⟩).trans SB4.out)
 have KP5 := qh (KP4.out.trans kp5 (fun _ _ h => h))
 have hu5z : u0.heap.size ≤ u5.heap.size := KP5.out.size
 have HZS5 : Hid (∀ b, Zs b → b < u5.heap.size) := qh (fun b hb => Nat.lt_of_lt_of_le (HZS0.out b hb) hu5z)
 have hub5 : n5 ≤ n3 + 2 * snodess els := by
  have h1 := emSs_len env n3 els
  have h2 := HL5.out
  have h3 := HL4.out
  rw [hcu5, List.length_append] at h2
  omega
 have hlw5 : n3 ≤ n5 := by
  have h2 := HL5.out
  have h3 := HL4.out
  rw [hcu5, List.length_append] at h2
  omega
 clear k40 k41 k42 k43 k44 f43 f44 s40 s41 s42 s43 s44 s45 s46 s47 hk4 hs4
 clear kp5 hcu5 hkb5 hgr5
 obtain ⟨k50, k51, k52, k53, k54, f53, f54⟩ := box5 KB5.out
 obtain ⟨s50, s51, s52, s53, s54, s55, s56, s57⟩ := cells8 SB5.out
 have hk5 := lt_of_block KB5.out
 have hs5 := lt_of_block SB5.out
 have hat5 : n2 < cu5.length := by have := HL5.out; omega
 obtain ⟨-, ob5, hob5, hol5, hobb5, hoz5, hof5, ⟨old5, hoc5⟩, hto5⟩ := grwi_to GR5.out hat5
 have HTO5 := qh (hto5 (n5 : Int) (by unfold i64in; omega))
 have HOZ5 := qh hoz5
 have HAT5 := qh hat5
 have hof6 := hof5 (n2 * 7 + 6)
 have hn6 : (n2 : Int) < (n5 : Int) := by have := HL5.out; omega
 have hn0 : (0 : Int) ≤ (n2 : Int) := by omega
 subst hob5
 clear hto5 hoz5 hof5
 have hobk : kb ≠ ob5 := by omega
 have hobk' : ob5 ≠ kb := by omega
 go_upto_region 21 with fail
 go_region_held3 (fun w' => w'.cell? ⟨kb, 4, none⟩ = some (.slice (some ⟨ob5, 0, none⟩) n5 c5) ∧ kb < w'.heap.size)
  (first | (with_reducible assumption) | exact ⟨k54, hk5⟩ | exact ⟨(World.cell?_setCell_other _ _ _ _ (by simp [hobk, hobk'])).trans k54, by simpa using hk5⟩)
  (first | fail)
 obtain ⟨u6, hu6⟩ : ∃ u, (u5.setCell ⟨ob5, n2 * 7 + 6, none⟩ (.int .i64 (n5 : Int))).drew = u := ⟨_, rfl⟩
 have hkq : ∀ b, b ≠ ob5 → u6.heap[b]? = u5.heap[b]? := fun b hb => by rw [← hu6]; exact Below.heap_setCell u5 ⟨ob5, n2 * 7 + 6, none⟩ _ b hb
 have hobs : sb ≠ ob5 := fun e => HOZ5.out (by rw [← e]; exact hZsb)
 have KB6 := qh ((hkq kb hobk).trans KB5.out)
 have SB6 := qh ((hkq sb hobs).trans SB5.out)
 obtain ⟨cu6, hcu6⟩ : ∃ cu, cu5.set n2 ⟨(cu5[n2]'HAT5.out).op, (cu5[n2]'HAT5.out).arg, (cu5[n2]'HAT5.out).term, (n5 : Int)⟩ = cu := ⟨_, rfl⟩
 have HC6 := qh hcu6
 have HL6 : Hid (cu6.length = n5) := qh (by rw [← hcu6, List.length_set]; exact HL5.out)
 have GR6 : Hid (GrwI base Zs u6 (.slice (some ⟨ob5, 0, none⟩) n5 c5) cu6) := qh (by
  rw [← hcu6, ← hu6]
  exact GrwX.below IcP.keepP HTO5.out (Below.refl _ _).drew)
 have KP6 : Hid (Keep (Fz base Zs kb) u0 u6) := qh (by
  rw [← hu6]
  exact (KP5.out.setCell (p := ⟨ob5, n2 * 7 + 6, none⟩) (fun h => h.2.elim (fun h => absurd (show ob5 < base from h) (by omega)) HOZ5.out) _).trans (Keep.of_below (S := Fz base Zs kb) (Below.refl _ _).drew) (fun _ _ h => h))
 rw [hu6]
 have hu6z : u0.heap.size ≤ u6.heap.size := KP6.out.size
 have HZS6 : Hid (∀ b, Zs b → b < u6.heap.size) := qh (fun b hb => Nat.lt_of_lt_of_le (HZS0.out b hb) hu6z)
 clear k50 k51 k52 k53 k54 f53 f54 s50 s51 s52 s53 s54 s55 s56 s57 hk5 hs5
 clear hol5 hobb5 hoc5 hof6 hn6 hn0 hkq hobk hobk' hobs hu6 hcu6
 go_wp2_with fail
 have hfin := if1_fin (s := xs) h0e.out HL0.out HC1.out HL1.out HC2.out HL2.out HC3.out HL3.out HAT3.out HC4.out HC5.out HL5.out HAT5.out HC6.out
 exact ⟨AdFr.mk, (some ⟨ob5, 0, none⟩), n5, c5, cu6, hfin, KB6.out, SB6.out, GR6.out, KP6.out⟩
end Go.Proofs.YtnmblfonmfjoeaaGreatDoor
