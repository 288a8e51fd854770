/- Lemmas for the row. -/
import Derived.Test.YtadcebdhgocmhaaKo16
namespace Go.Proofs.Ytadcebdhgocmhaa
open Go.RowKit
set_option linter.unusedVariables false
set_option maxHeartbeats 6400000 in
set_option maxRecDepth 100000 in
theorem ad_k4 {x1 x2 x3 x4 : Value} (l : List St) (ih : ∀ g ∈ l, ∀ k s t b e, g = .mk k s t b e → AddC b ∧ AddC e) (A : Option Addr) (c : Nat) (w : World) (kb : Nat) (env : Env) (gA lA pA eA : Option Addr) (gc lc pc en ec : Nat) (Ai : Option Addr) (ni ci : Nat) (cur : List Ic) (base : Nat) (Z : Nat → Prop)
    (row : StRow (Fz base Z kb) w A l) (hl : l.length ≤ c) (hc : c ≤ maxLen) (hkd : kdSs l) (htot : totGs l ≤ 1048577) (hsz : cur.length + 2 * snodess l ≤ 100000)
    (hstr : StrsF (Fz base Z kb) w (.slice gA env.G.length gc) env.G ∧ StrsF (Fz base Z kb) w (.slice lA env.L.length lc) env.L ∧ StrsF (Fz base Z kb) w (.slice pA env.P.length pc) env.P) (henv : env.G.length ≤ 1000 ∧ env.L.length ≤ 1000 ∧ env.P.length ≤ 1000)
    (hkb : kb < base) (hbase : base ≤ w.heap.size) (hZ : ∀ b, Z b → b < w.heap.size) (HLI : Hid (cur.length = ni))
    (j : Nat) (hlt : j < l.length) (wr : World) (hrel : AdJ w wr kb env gA lA pA eA gc lc pc en ec ni cur base Z l j)
    (hkn : ∀ k s t b e, l[j] = .mk k s t b e → k = 4) (Q : Exit → Act → World → Prop) (hQ : ∀ a' w', AdFr (.pointer (some ⟨kb, 0, none⟩)) x1 x2 x3 x4 (.slice A l.length c) (.int .i64 (l.length : Int)) (.int .i64 ((j : Int) + 1)) a' → AdJ w w' kb env gA lA pA eA gc lc pc en ec ni cur base Z l (j + 1) → Q .normal a' w') : ∀ a, AdFr (.pointer (some ⟨kb, 0, none⟩)) x1 x2 x3 x4 (.slice A l.length c) (.int .i64 (l.length : Int)) (.int .i64 (j : Int)) a → Code.wp Try.prog adBody Q a wr := by
  have IH := Lib.hid ih
  have RW := Lib.hid row
  have KDS := Lib.hid hkd
  have HST := Lib.hid hstr
  have HEB := Lib.hid henv
  have HZ := Lib.hid hZ
  have HQ := Lib.hid hQ
  unfold maxLen at hc
  clear ih row hkd hstr henv hZ hQ
  obtain ⟨A0, n0, c0, cu0, hcj, hkbx, hgr, hkp⟩ := hrel
  have CJ := Lib.hid hcj
  have KPR := Lib.hid hkp
  have KBR := Lib.hid hkbx
  have GRR := Lib.hid hgr
  have HL0 : Hid (cu0.length = n0) := Lib.hid (by obtain ⟨_, _, e, _, _⟩ := hgr.slice; injection e with _ e; exact e.symm)
  have hwsz := hkp.size
  have hroom : n0 + 2 * snodes l[j] ≤ 100000 := by
    have h1 := emSs_here env ni l j hlt
    have h2 := HL0.out
    rw [hcj, List.length_append] at h2
    omega
  obtain ⟨b, off, x, rfl, hFb, ⟨d0, d1, d2, d3, d4, d5, d6, d7⟩, hst⟩ := rd_stmt (RW.out.keep (keep_cell hkp) (fun _ _ h => h)) hlt
  have hk1 := kdSs_mem KDS.out (List.getElem_mem hlt)
  have htg := totGs_ltE (List.getElem_mem hlt)
  have hkn' := hkn
  have hih := IH.out _ (List.getElem_mem hlt)
  generalize hG : l[j] = gj at hroom hst hk1 htg hih hkn'
  obtain ⟨xk, xs, tk, tn, ts, tA, tm, tc, bA, bm, bc, oA, om, oc⟩ := x
  obtain ⟨t, body, els, rfl, hki, hxs, htm, hbm, hb1, hb2, rowb, hem, he1, he2, rowe⟩ := hst.inv
  simp only at d0 d1 d2 d3 d4 d5 d6 d7 hki hxs htm hbm hb1 hb2 rowb hem he1 he2 rowe hG hroom hk1 htg hih
  clear hkn
  subst hbm hem
  have HG := Lib.hid hG
  rw [kdT] at hk1
  rw [totG] at htg
  rw [snodes] at hroom
  obtain ⟨hx1, hx8, hkdb, hkde⟩ := hk1
  obtain ⟨ihb, ihe⟩ := hih _ _ _ _ _ rfl
  have IHB := Lib.hid ihb
  have IHE := Lib.hid ihe
  have KDB := Lib.hid hkdb
  have KDE := Lib.hid hkde
  have HTB : Hid (totGs body ≤ 1048576) := Lib.hid (by omega)
  have HTE : Hid (totGs els ≤ 1048576) := Lib.hid (by omega)
  have HTT : Hid (totT t ≤ 1048576) := Lib.hid (by omega)
  have TMR := Lib.hid htm
  have RBR := Lib.hid rowb
  have RER := Lib.hid rowe
  clear hst hih hG hki hxs htm rowb rowe hkdb hkde ihb ihe htg hcj
  have hlb := cell_lt d0
  obtain ⟨sb, hsb⟩ : ∃ sb, wr.heap.size = sb := ⟨_, rfl⟩
  obtain ⟨Zs, hZsZ, hZsb, hZsi⟩ : ∃ Zs : Nat → Prop, (∀ b, Z b → Zs b) ∧ Zs sb ∧ ∀ b, Zs b → Z b ∨ b = sb := ⟨fun b => Z b ∨ b = sb, fun b h => .inl h, .inr rfl, fun b h => h⟩
  have hnsk : ¬ sb = kb := by omega
  have hnks : ¬ kb = sb := by omega
  obtain ⟨u0, hu0⟩ : ∃ u0, wr.alloc (.cells #[.int .i64 xk, .string xs, .int .i64 tk, .int .i64 tn, .string ts, .slice tA tm tc, .slice bA body.length bc, .slice oA els.length oc] 36) = u0 := ⟨_, rfl⟩
  have B0 : Hid (Below wr.heap.size wr u0) := Lib.hid (by rw [← hu0]; exact Below.alloc (Below.refl _ _) (Nat.le_refl _) _)
  have SB0 : Hid (u0.heap[sb]? = some (.cells #[.int .i64 xk, .string xs, .int .i64 tk, .int .i64 tn, .string ts, .slice tA tm tc, .slice bA body.length bc, .slice oA els.length oc] 36 (0, 0))) := Lib.hid (by rw [← hsb, ← hu0]; exact heap_alloc_new _ _)
  have KB0 := Lib.hid ((B0.out.block kb (lt_of_block KBR.out)).trans KBR.out)
  have GR0 : Hid (GrwI base Zs u0 (.slice A0 n0 c0) cu0) := Lib.hid ((GRR.out.zsub (fun b _ h2 h => (hZsi b h).elim id (fun e => by omega))).below IcP.keepP B0.out)
  have KP0 : Hid (Keep (Fz base Zs kb) u0 u0) := Lib.hid (Keep.refl _ _)
  have HZS0 : Hid (∀ b, Zs b → b < u0.heap.size) := Lib.hid (fun b h => by
    have h1 := lt_of_block SB0.out
    rcases hZsi b h with h | h
    · have := HZ.out b h; have := B0.out.size; omega
    · omega)
  have hz0 : wr.heap.size ≤ u0.heap.size := B0.out.size
  have hfz : ∀ b, b < wr.heap.size → Fz base Z kb b → Fz base Zs kb b := fun b _ h => ⟨h.1, h.2.imp id (hZsZ b)⟩
  have KW : Hid (Keep (Fz base Z kb) w u0) := Lib.hid (KPR.out.trans (Keep.of_below (S := Fz base Z kb) B0.out) (fun _ _ h => h))
  have SG0 := Lib.hid (HST.out.1.keep (keep_cell KW.out) (fun b hb h => (⟨h.1, h.2.imp id (hZsZ b)⟩ : Fz base Zs kb b)))
  have SL0 := Lib.hid (HST.out.2.1.keep (keep_cell KW.out) (fun b hb h => (⟨h.1, h.2.imp id (hZsZ b)⟩ : Fz base Zs kb b)))
  have SP0 := Lib.hid (HST.out.2.2.keep (keep_cell KW.out) (fun b hb h => (⟨h.1, h.2.imp id (hZsZ b)⟩ : Fz base Zs kb b)))
  have TM0 := Lib.hid (TMR.out.keep (keep_cell (Keep.of_below (S := Fz base Z kb) B0.out)) (F' := Fz base Zs kb) (fun b hb h => hfz b hb h))
  have RB0 := Lib.hid (RBR.out.keep (keep_cell (Keep.of_below (S := Fz base Z kb) B0.out)) (F' := Fz base Zs kb) (fun b hb h => hfz b hb h))
  have RE0 := Lib.hid (RER.out.keep (keep_cell (Keep.of_below (S := Fz base Z kb) B0.out)) (F' := Fz base Zs kb) (fun b hb h => hfz b hb h))
  clear KBR GRR TMR RBR RER hfz
  obtain rfl : xk = 4 := hkn' _ _ _ _ _ rfl
  clear hkn'
  refine AdFr.all ?_
  intros
  conv => arg 2; whnf
  obtain ⟨k00, k01, k02, k03, k04, f03, f04⟩ := box5 KB0.out
  obtain ⟨s00, s01, s02, s03, s04, s05, s06, s07⟩ := cells8 SB0.out
  have hk0 := lt_of_block KB0.out
  have hs0 := lt_of_block SB0.out
  have BY0 : Hid (Below u0.heap.size u0 u0.drew) := Lib.hid (Below.refl _ _).drew
  obtain ⟨cs0, G0, hat0⟩ := GR0.out; have HAT0 := Lib.hid hat0; have OW0 := Lib.hid (hat0.ow.keep (Keep.of_below (S := fun _ => True) BY0.out) (fun _ _ => trivial)).own; rw [HL0.out] at OW0; clear hat0
  have KY0 := Lib.hid ((BY0.out.block kb hk0).trans KB0.out)
  have SY0 := Lib.hid ((BY0.out.block sb hs0).trans SB0.out)
  have IS0 := Lib.hid ((SP0.out.keep (keep_cell KP0.out) (fun _ _ h => h)).keep (keep_cell (Keep.of_below (S := Fz base Zs kb) BY0.out)) (fun _ _ h => h)).is
  go_upto_region 24 with fail
  have tst1 : n0 + 1 ≤ 2000000 := by omega
  have hS0 : (SpJ kb sb (.slice gA env.G.length gc) (.slice lA env.L.length lc) (.slice pA env.P.length pc) (.slice A0 n0 c0) (.string xs) (.int .i64 tk) (.int .i64 tn) (.string ts) (.slice tA tm tc) u0.drew) := spJ_of KB0.out SB0.out
  refine wp_region_noPanic ?_
  refine wp_region_sk (fun w' => w'.cell? ⟨kb, 0, none⟩ = some (.slice gA env.G.length gc) ∧ w'.cell? ⟨kb, 1, none⟩ = some (.slice lA env.L.length lc) ∧ w'.cell? ⟨kb, 2, none⟩ = some (.slice pA env.P.length pc) ∧ w'.cell? ⟨kb, 4, none⟩ = some (.slice A0 n0 c0) ∧ w'.cell? ⟨sb, 1, none⟩ = some (.string xs) ∧ w'.cell? ⟨sb, 2, none⟩ = some (.int .i64 tk) ∧ w'.cell? ⟨sb, 3, none⟩ = some (.int .i64 tn) ∧ w'.cell? ⟨sb, 4, none⟩ = some (.string ts) ∧ w'.cell? ⟨sb, 5, none⟩ = some (.slice tA tm tc) ∧ kb < w'.heap.size ∧ sb < w'.heap.size) 17 (by kernel_rfl) hS0 (fun hHeld => ?_)
  refine wpSk_take (i := 0) (v := ?hv0) rfl (by kernel_rfl) (fun _ _ _ h => h) (Or.inl ⟨by rfl, ?hy0⟩) (by assumption) ?hr0
  case hy0 => (intro wS hSw; (try dsimp only at hSw); go_simp; (try with_reducible rfl))
  try simp only [Act.put, layS, layZ, layC]
  refine wpSk_take (i := 1) (v := ?hv1) rfl (by kernel_rfl) (fun _ _ _ h => h) (Or.inl ⟨by rfl, ?hy1⟩) (by assumption) ?hr1
  case hy1 => (intro wS hSw; (try dsimp only at hSw); go_simp; (try with_reducible rfl))
  try simp only [Act.put, layS, layZ, layC]
  refine wpSk_take (i := 2) (v := ?hv2) rfl (by kernel_rfl) (fun _ _ _ h => h) (Or.inl ⟨by rfl, ?hy2⟩) (by assumption) ?hr2
  case hy2 => (intro wS hSw; (try dsimp only at hSw); go_simp; (try with_reducible rfl))
  try simp only [Act.put, layS, layZ, layC]
  refine wpSk_take (i := 3) (v := ?hv3) rfl (by kernel_rfl) (fun _ _ _ h => h) (Or.inl ⟨by rfl, ?hy3⟩) (by assumption) ?hr3
  case hy3 => (intro wS hSw; (try dsimp only at hSw); go_simp; (try with_reducible rfl))
  try simp only [Act.put, layS, layZ, layC]
  refine wpSk_take (i := 4) (v := ?hv4) rfl (by kernel_rfl) (fun _ _ _ h => h) (Or.inl ⟨by rfl, ?hy4⟩) (by assumption) ?hr4
  case hy4 => (intro wS hSw; (try dsimp only at hSw); go_simp; (try with_reducible rfl))
  try simp only [Act.put, layS, layZ, layC]
  refine wpSk_take (i := 5) (v := ?hv5) rfl (by kernel_rfl) (fun _ _ _ h => h) (Or.inl ⟨by rfl, ?hy5⟩) (by assumption) ?hr5
  case hy5 => (intro wS hSw; (try dsimp only at hSw); go_simp; (try with_reducible rfl))
  try simp only [Act.put, layS, layZ, layC]
  refine wpSk_take (i := 6) (v := ?hv6) rfl (by kernel_rfl) (fun _ _ _ h => h) (Or.inl ⟨by rfl, ?hy6⟩) (by assumption) ?hr6
  case hy6 => (intro wS hSw; (try dsimp only at hSw); go_simp; (try with_reducible rfl))
  try simp only [Act.put, layS, layZ, layC]
  refine wpSk_take (i := 7) (v := ?hv7) rfl (by kernel_rfl) (fun _ _ _ h => h) (Or.inl ⟨by rfl, ?hy7⟩) (by assumption) ?hr7
  case hy7 => (intro wS hSw; (try dsimp only at hSw); go_simp; (try with_reducible rfl))
  try simp only [Act.put, layS, layZ, layC]
  refine wpSk_take (i := 8) (v := ?hv8) rfl (by kernel_rfl) (fun _ _ _ h => h) (Or.inl ⟨by rfl, ?hy8⟩) (by assumption) ?hr8
  case hy8 => (intro wS hSw; (try dsimp only at hSw); go_simp; (try with_reducible rfl))
  try simp only [Act.put, layS, layZ, layC]
  refine wpSk_take (i := 9) (v := ?hv9) rfl (by kernel_rfl) (fun _ _ _ h => h) (Or.inl ⟨by rfl, ?hy9⟩) (by assumption) ?hr9
  case hy9 => (intro wS hSw; (try dsimp only at hSw); go_simp; (try with_reducible rfl))
  try simp only [Act.put, layS, layZ, layC]
  refine wpSk_take (i := 10) (v := ?hv10) rfl (by kernel_rfl) (fun _ _ _ h => h) (Or.inl ⟨by rfl, ?hy10⟩) (by assumption) ?hr10
  case hy10 => (intro wS hSw; (try dsimp only at hSw); go_simp; (try with_reducible rfl))
  try simp only [Act.put, layS, layZ, layC]
  refine wpSk_step (i := 11) (by kernel_rfl) rfl (fun K hK => ?_)
  go_simp
  have hcl := impl_PlaceOf (.slice pA env.P.length pc) env.P xs u0.drew IS0.out; refine hcl.mono ?_; clear hcl; rintro e w' ⟨rfl, rfl⟩
  refine hK.out _ _ (fun _ => hHeld) ?_
  clear hK K
  try simp only [Act.put, layS, layZ, layC]
  refine wpSk_take (i := 12) (v := ?hv12) rfl (by kernel_rfl) (fun _ _ _ h => h) (Or.inl ⟨by rfl, ?hy12⟩) (by assumption) ?hr12
  case hy12 => (intro wS hSw; (try dsimp only at hSw); go_simp; (try with_reducible rfl))
  try simp only [Act.put, layS, layZ, layC]
  refine wpSk_step (i := 13) (by kernel_rfl) rfl (fun K hK => ?_)
  go_simp
  refine hK.out _ _ (fun _ => (show (SpJ kb sb (.slice gA env.G.length gc) (.slice lA env.L.length lc) (.slice pA env.P.length pc) (.slice A0 n0 c0) (.string xs) (.int .i64 tk) (.int .i64 tn) (.string ts) (.slice tA tm tc) u0.drew) from hHeld).alloc _) ?_
  clear hK K hHeld
  try simp only [Act.put, layS, layZ, layC]
  refine wpSk_step (i := 14) (by kernel_rfl) rfl (fun K hK => ?_)
  refine step_appG _ inT (by rfl) _ _ (by rfl) (by rfl) (OW0.out.alloc _) _ 1 1 [.int .i64 4, .int .i64 (placeS env.P xs), .int .i64 0, .int .i64 0, .string ⟨#[]⟩, .slice none 0 0, .int .i64 0] (by rfl) (by first | exact Rd.new _ 7 1 _ _ rfl | exact (Rd.new _ 7 1 _ _ rfl).drew) (by simp [Value.oneCell']) tst1 (by decide) ?_
  intro v' wz0 own' gr'
  have GZ0' : Grew (.slice A0 n0 c0) v' u0.drew wz0 := (Grew.of_below (Below.alloc (Below.refl _ _) (Nat.le_refl _) _)).trans gr'
  have hog : (Value.slice A0 n0 c0).ownBlock ≠ some kb := (fun e => by have := (HAT0.out.ow.lt kb e).1; omega)
  have KZ0 := Lib.hid ((GZ0'.keep.block kb (lt_of_block KY0.out) hog).trans KY0.out)
  have hogs : (Value.slice A0 n0 c0).ownBlock ≠ some sb := (fun e => HAT0.out.clear sb e hZsb)
  have SZ0 := Lib.hid ((GZ0'.keep.block sb (lt_of_block SY0.out) hogs).trans SY0.out)
  have hNew : (SpJ kb sb (.slice gA env.G.length gc) (.slice lA env.L.length lc) (.slice pA env.P.length pc) (.slice A0 n0 c0) (.string xs) (.int .i64 tk) (.int .i64 tn) (.string ts) (.slice tA tm tc) wz0) := spJ_of KZ0.out SZ0.out
  obtain ⟨A1, c1, rfl, _⟩ := own'.slice
  obtain ⟨n1, hn1⟩ : ∃ n, n0 + 1 = n := ⟨_, rfl⟩
  rw [hn1] at own' GZ0' ⊢
  have HNN0 : Hid (cu0.length + 1 = n1) := Lib.hid (by rw [HL0.out]; exact hn1)
  have OWN0 : Hid (Own (cutX base u0.drew) wz0 78 7 (.slice A1 n1 c1) (cu0.length + 1) (cs0.flatten ++ [.int .i64 4, .int .i64 (placeS env.P xs), .int .i64 0, .int .i64 0, .string ⟨#[]⟩, .slice none 0 0, .int .i64 0])) := Lib.hid (by rw [HNN0.out]; exact own')
  have GZ0 := Lib.hid GZ0'
  clear own' gr' GZ0' hn1
  refine hK.out _ _ (fun _ => hNew) ?_
  clear hK K
  have hHeld := hNew
  clear hNew
  try simp only [Act.put, layS, layZ, layC]
  refine wpSk_take (i := 15) (v := ?hv15) rfl (by kernel_rfl) (fun _ _ _ h => h) (Or.inl ⟨by rfl, ?hy15⟩) (by assumption) ?hr15
  case hy15 => (intro wS hSw; (try dsimp only at hSw); go_simp; (try with_reducible rfl))
  try simp only [Act.put, layS, layZ, layC]
  refine wpSk_take (i := 16) (v := ?hv16) rfl (by kernel_rfl) (fun _ _ _ h => h) (Or.inl ⟨by rfl, ?hy16⟩) (by assumption) ?hr16
  case hy16 => (intro wS hSw; (try dsimp only at hSw); go_simp; (try with_reducible rfl))
  try simp only [Act.put, layS, layZ, layC]
  clear hHeld hS0
  obtain ⟨y00, y01, y02, y03, y04, yf03, yf04⟩ := box5 KZ0.out
  have hy0 := lt_of_block KZ0.out
  refine wpSk_step (i := 17) (by kernel_rfl) rfl (fun K hK => ?_)
  go_simp
  refine hK.out _ _ (fun h => absurd h (by decide)) ?_
  clear hK K
  refine wpSk_done (by kernel_rfl) ?_ _
  refine NoPanic.normal ?_
  clear k00 k01 k02 k03 k04 f03 f04 s00 s01 s02 s03 s04 s05 s06 s07 hk0 hs0
  clear tst1 y00 y01 y02 y03 y04 yf03 yf04 hy0
  skip
  have DONE := grwi_app (o := 4) hkb HAT0.out BY0.out (icP_zero _ 4 (placeS env.P xs) 0 (by unfold i64in; omega) (placeS_in _ _ (by have := HEB.out; omega)) (by unfold i64in; omega)) (fun b hb => hb.elim) HZS0.out OWN0.out GZ0.out (.slice A1 n1 c1)
  have HN1 : Hid (cu0.length + 1 = n1) := Lib.hid HNN0.out
  obtain ⟨cu1, hcu1⟩ : ∃ cu, cu0 ++ [⟨4, (placeS env.P xs), zeroTm, 0⟩] = cu := ⟨_, rfl⟩
  rw [hcu1] at DONE
  have HC1 := Lib.hid hcu1
  have HL1 : Hid (cu1.length = n1) := Lib.hid (by rw [← hcu1, ← HN1.out]; simp)
  clear hcu1
  have KB1 : Hid ((wz0.setCell ⟨kb, 4, none⟩ (.slice A1 n1 c1)).heap[kb]? = some (.cells #[.slice gA env.G.length gc, .slice lA env.L.length lc, .slice pA env.P.length pc, .slice eA en ec, .slice A1 n1 c1] 48 (0, 0))) := Lib.hid (s5_4 ((DONE.2.2 kb (.inr hkb)).trans KB0.out) _)
  have SB1 : Hid ((wz0.setCell ⟨kb, 4, none⟩ (.slice A1 n1 c1)).heap[sb]? = some (.cells #[.int .i64 4, .string xs, .int .i64 tk, .int .i64 tn, .string ts, .slice tA tm tc, .slice bA body.length bc, .slice oA els.length oc] 36 (0, 0))) := Lib.hid ((Below.heap_setCell wz0 ⟨kb, 4, none⟩ _ sb hnsk).trans ((DONE.2.2 sb (.inl hZsb)).trans SB0.out))
  have GR1 := Lib.hid DONE.1
  have KP1 := Lib.hid (KP0.out.trans DONE.2.1 (fun _ _ h => h))
  clear DONE
  obtain ⟨u1, hu1⟩ : ∃ u, wz0.setCell ⟨kb, 4, none⟩ (.slice A1 n1 c1) = u := ⟨_, rfl⟩
  rw [hu1] at KB1 SB1 GR1 KP1 ⊢
  have hu1z : u0.heap.size ≤ u1.heap.size := KP1.out.size
  have HZS1 : Hid (∀ b, Zs b → b < u1.heap.size) := Lib.hid (fun b hb => Nat.lt_of_lt_of_le (HZS0.out b hb) hu1z)
  have hub1 : n1 ≤ n0 + 1 := by have := HN1.out; have := HL0.out; omega
  have hlw1 : n0 + 1 ≤ n1 := by have := HN1.out; have := HL0.out; omega
  clear hu1
  go_wp2_with fail
  have hfin : cu1 = cu0 ++ emT env n0 (.mk 4 xs t body els) := by
    rw [← HC1.out, emT_one _ _ _ _ _ _ _ (by decide) (by decide)]; rfl
  refine HQ.out _ _ AdFr.mk ⟨A1, n1, c1, cu1, ?_, KB1.out, GR1.out.zsub (fun b _ _ h => hZsZ b h), (KPR.out.trans (Keep.of_below (S := Fz base Z kb) B0.out) (fun _ _ h => h)).trans (KP1.out.mono (fun b _ h => ⟨h.1, h.2.imp id (hZsZ b)⟩)) (fun _ _ h => h)⟩
  rw [List.take_succ_eq_append_getElem hlt, HG.out, emSs_snoc, ← List.append_assoc, ← CJ.out, hfin]
  have h1 : ni + (emSs env ni (l.take j)).length = n0 := by have h2 := HL0.out; rw [CJ.out, List.length_append, HLI.out] at h2; exact h2
  rw [h1]
set_option maxHeartbeats 6400000 in
set_option maxRecDepth 100000 in
theorem ad_k5 {x1 x2 x3 x4 : Value} (l : List St) (ih : ∀ g ∈ l, ∀ k s t b e, g = .mk k s t b e → AddC b ∧ AddC e) (A : Option Addr) (c : Nat) (w : World) (kb : Nat) (env : Env) (gA lA pA eA : Option Addr) (gc lc pc en ec : Nat) (Ai : Option Addr) (ni ci : Nat) (cur : List Ic) (base : Nat) (Z : Nat → Prop)
    (row : StRow (Fz base Z kb) w A l) (hl : l.length ≤ c) (hc : c ≤ maxLen) (hkd : kdSs l) (htot : totGs l ≤ 1048577) (hsz : cur.length + 2 * snodess l ≤ 100000)
    (hstr : StrsF (Fz base Z kb) w (.slice gA env.G.length gc) env.G ∧ StrsF (Fz base Z kb) w (.slice lA env.L.length lc) env.L ∧ StrsF (Fz base Z kb) w (.slice pA env.P.length pc) env.P) (henv : env.G.length ≤ 1000 ∧ env.L.length ≤ 1000 ∧ env.P.length ≤ 1000)
    (hkb : kb < base) (hbase : base ≤ w.heap.size) (hZ : ∀ b, Z b → b < w.heap.size) (HLI : Hid (cur.length = ni))
    (j : Nat) (hlt : j < l.length) (wr : World) (hrel : AdJ w wr kb env gA lA pA eA gc lc pc en ec ni cur base Z l j)
    (hkn : ∀ k s t b e, l[j] = .mk k s t b e → k = 5) (Q : Exit → Act → World → Prop) (hQ : ∀ a' w', AdFr (.pointer (some ⟨kb, 0, none⟩)) x1 x2 x3 x4 (.slice A l.length c) (.int .i64 (l.length : Int)) (.int .i64 ((j : Int) + 1)) a' → AdJ w w' kb env gA lA pA eA gc lc pc en ec ni cur base Z l (j + 1) → Q .normal a' w') : ∀ a, AdFr (.pointer (some ⟨kb, 0, none⟩)) x1 x2 x3 x4 (.slice A l.length c) (.int .i64 (l.length : Int)) (.int .i64 (j : Int)) a → Code.wp Try.prog adBody Q a wr := by
  have IH := Lib.hid ih
  have RW := Lib.hid row
  have KDS := Lib.hid hkd
  have HST := Lib.hid hstr
  have HEB := Lib.hid henv
  have HZ := Lib.hid hZ
  have HQ := Lib.hid hQ
  unfold maxLen at hc
  clear ih row hkd hstr henv hZ hQ
  obtain ⟨A0, n0, c0, cu0, hcj, hkbx, hgr, hkp⟩ := hrel
  have CJ := Lib.hid hcj
  have KPR := Lib.hid hkp
  have KBR := Lib.hid hkbx
  have GRR := Lib.hid hgr
  have HL0 : Hid (cu0.length = n0) := Lib.hid (by obtain ⟨_, _, e, _, _⟩ := hgr.slice; injection e with _ e; exact e.symm)
  have hwsz := hkp.size
  have hroom : n0 + 2 * snodes l[j] ≤ 100000 := by
    have h1 := emSs_here env ni l j hlt
    have h2 := HL0.out
    rw [hcj, List.length_append] at h2
    omega
  obtain ⟨b, off, x, rfl, hFb, ⟨d0, d1, d2, d3, d4, d5, d6, d7⟩, hst⟩ := rd_stmt (RW.out.keep (keep_cell hkp) (fun _ _ h => h)) hlt
  have hk1 := kdSs_mem KDS.out (List.getElem_mem hlt)
  have htg := totGs_ltE (List.getElem_mem hlt)
  have hkn' := hkn
  have hih := IH.out _ (List.getElem_mem hlt)
  generalize hG : l[j] = gj at hroom hst hk1 htg hih hkn'
  obtain ⟨xk, xs, tk, tn, ts, tA, tm, tc, bA, bm, bc, oA, om, oc⟩ := x
  obtain ⟨t, body, els, rfl, hki, hxs, htm, hbm, hb1, hb2, rowb, hem, he1, he2, rowe⟩ := hst.inv
  simp only at d0 d1 d2 d3 d4 d5 d6 d7 hki hxs htm hbm hb1 hb2 rowb hem he1 he2 rowe hG hroom hk1 htg hih
  clear hkn
  subst hbm hem
  have HG := Lib.hid hG
  rw [kdT] at hk1
  rw [totG] at htg
  rw [snodes] at hroom
  obtain ⟨hx1, hx8, hkdb, hkde⟩ := hk1
  obtain ⟨ihb, ihe⟩ := hih _ _ _ _ _ rfl
  have IHB := Lib.hid ihb
  have IHE := Lib.hid ihe
  have KDB := Lib.hid hkdb
  have KDE := Lib.hid hkde
  have HTB : Hid (totGs body ≤ 1048576) := Lib.hid (by omega)
  have HTE : Hid (totGs els ≤ 1048576) := Lib.hid (by omega)
  have HTT : Hid (totT t ≤ 1048576) := Lib.hid (by omega)
  have TMR := Lib.hid htm
  have RBR := Lib.hid rowb
  have RER := Lib.hid rowe
  clear hst hih hG hki hxs htm rowb rowe hkdb hkde ihb ihe htg hcj
  have hlb := cell_lt d0
  obtain ⟨sb, hsb⟩ : ∃ sb, wr.heap.size = sb := ⟨_, rfl⟩
  obtain ⟨Zs, hZsZ, hZsb, hZsi⟩ : ∃ Zs : Nat → Prop, (∀ b, Z b → Zs b) ∧ Zs sb ∧ ∀ b, Zs b → Z b ∨ b = sb := ⟨fun b => Z b ∨ b = sb, fun b h => .inl h, .inr rfl, fun b h => h⟩
  have hnsk : ¬ sb = kb := by omega
  have hnks : ¬ kb = sb := by omega
  obtain ⟨u0, hu0⟩ : ∃ u0, wr.alloc (.cells #[.int .i64 xk, .string xs, .int .i64 tk, .int .i64 tn, .string ts, .slice tA tm tc, .slice bA body.length bc, .slice oA els.length oc] 36) = u0 := ⟨_, rfl⟩
  have B0 : Hid (Below wr.heap.size wr u0) := Lib.hid (by rw [← hu0]; exact Below.alloc (Below.refl _ _) (Nat.le_refl _) _)
  have SB0 : Hid (u0.heap[sb]? = some (.cells #[.int .i64 xk, .string xs, .int .i64 tk, .int .i64 tn, .string ts, .slice tA tm tc, .slice bA body.length bc, .slice oA els.length oc] 36 (0, 0))) := Lib.hid (by rw [← hsb, ← hu0]; exact heap_alloc_new _ _)
  have KB0 := Lib.hid ((B0.out.block kb (lt_of_block KBR.out)).trans KBR.out)
  have GR0 : Hid (GrwI base Zs u0 (.slice A0 n0 c0) cu0) := Lib.hid ((GRR.out.zsub (fun b _ h2 h => (hZsi b h).elim id (fun e => by omega))).below IcP.keepP B0.out)
  have KP0 : Hid (Keep (Fz base Zs kb) u0 u0) := Lib.hid (Keep.refl _ _)
  have HZS0 : Hid (∀ b, Zs b → b < u0.heap.size) := Lib.hid (fun b h => by
    have h1 := lt_of_block SB0.out
    rcases hZsi b h with h | h
    · have := HZ.out b h; have := B0.out.size; omega
    · omega)
  have hz0 : wr.heap.size ≤ u0.heap.size := B0.out.size
  have hfz : ∀ b, b < wr.heap.size → Fz base Z kb b → Fz base Zs kb b := fun b _ h => ⟨h.1, h.2.imp id (hZsZ b)⟩
  have KW : Hid (Keep (Fz base Z kb) w u0) := Lib.hid (KPR.out.trans (Keep.of_below (S := Fz base Z kb) B0.out) (fun _ _ h => h))
  have SG0 := Lib.hid (HST.out.1.keep (keep_cell KW.out) (fun b hb h => (⟨h.1, h.2.imp id (hZsZ b)⟩ : Fz base Zs kb b)))
  have SL0 := Lib.hid (HST.out.2.1.keep (keep_cell KW.out) (fun b hb h => (⟨h.1, h.2.imp id (hZsZ b)⟩ : Fz base Zs kb b)))
  have SP0 := Lib.hid (HST.out.2.2.keep (keep_cell KW.out) (fun b hb h => (⟨h.1, h.2.imp id (hZsZ b)⟩ : Fz base Zs kb b)))
  have TM0 := Lib.hid (TMR.out.keep (keep_cell (Keep.of_below (S := Fz base Z kb) B0.out)) (F' := Fz base Zs kb) (fun b hb h => hfz b hb h))
  have RB0 := Lib.hid (RBR.out.keep (keep_cell (Keep.of_below (S := Fz base Z kb) B0.out)) (F' := Fz base Zs kb) (fun b hb h => hfz b hb h))
  have RE0 := Lib.hid (RER.out.keep (keep_cell (Keep.of_below (S := Fz base Z kb) B0.out)) (F' := Fz base Zs kb) (fun b hb h => hfz b hb h))
  clear KBR GRR TMR RBR RER hfz
  obtain rfl : xk = 5 := hkn' _ _ _ _ _ rfl
  clear hkn'
  refine AdFr.all ?_
  intros
  conv => arg 2; whnf
  obtain ⟨k00, k01, k02, k03, k04, f03, f04⟩ := box5 KB0.out
  obtain ⟨s00, s01, s02, s03, s04, s05, s06, s07⟩ := cells8 SB0.out
  have hk0 := lt_of_block KB0.out
  have hs0 := lt_of_block SB0.out
  have BY0 : Hid (Below u0.heap.size u0 u0.drew) := Lib.hid (Below.refl _ _).drew
  obtain ⟨cs0, G0, hat0⟩ := GR0.out; have HAT0 := Lib.hid hat0; have OW0 := Lib.hid (hat0.ow.keep (Keep.of_below (S := fun _ => True) BY0.out) (fun _ _ => trivial)).own; rw [HL0.out] at OW0; clear hat0
  have KY0 := Lib.hid ((BY0.out.block kb hk0).trans KB0.out)
  have SY0 := Lib.hid ((BY0.out.block sb hs0).trans SB0.out)
  have IS0 := Lib.hid ((SP0.out.keep (keep_cell KP0.out) (fun _ _ h => h)).keep (keep_cell (Keep.of_below (S := Fz base Zs kb) BY0.out)) (fun _ _ h => h)).is
  go_upto_region 26 with fail
  have tst1 : n0 + 1 ≤ 2000000 := by omega
  have hS0 : (SpJ kb sb (.slice gA env.G.length gc) (.slice lA env.L.length lc) (.slice pA env.P.length pc) (.slice A0 n0 c0) (.string xs) (.int .i64 tk) (.int .i64 tn) (.string ts) (.slice tA tm tc) u0.drew) := spJ_of KB0.out SB0.out
  refine wp_region_noPanic ?_
  refine wp_region_sk (fun w' => w'.cell? ⟨kb, 0, none⟩ = some (.slice gA env.G.length gc) ∧ w'.cell? ⟨kb, 1, none⟩ = some (.slice lA env.L.length lc) ∧ w'.cell? ⟨kb, 2, none⟩ = some (.slice pA env.P.length pc) ∧ w'.cell? ⟨kb, 4, none⟩ = some (.slice A0 n0 c0) ∧ w'.cell? ⟨sb, 1, none⟩ = some (.string xs) ∧ w'.cell? ⟨sb, 2, none⟩ = some (.int .i64 tk) ∧ w'.cell? ⟨sb, 3, none⟩ = some (.int .i64 tn) ∧ w'.cell? ⟨sb, 4, none⟩ = some (.string ts) ∧ w'.cell? ⟨sb, 5, none⟩ = some (.slice tA tm tc) ∧ kb < w'.heap.size ∧ sb < w'.heap.size) 17 (by kernel_rfl) hS0 (fun hHeld => ?_)
  refine wpSk_take (i := 0) (v := ?hv0) rfl (by kernel_rfl) (fun _ _ _ h => h) (Or.inl ⟨by rfl, ?hy0⟩) (by assumption) ?hr0
  case hy0 => (intro wS hSw; (try dsimp only at hSw); go_simp; (try with_reducible rfl))
  try simp only [Act.put, layS, layZ, layC]
  refine wpSk_take (i := 1) (v := ?hv1) rfl (by kernel_rfl) (fun _ _ _ h => h) (Or.inl ⟨by rfl, ?hy1⟩) (by assumption) ?hr1
  case hy1 => (intro wS hSw; (try dsimp only at hSw); go_simp; (try with_reducible rfl))
  try simp only [Act.put, layS, layZ, layC]
  refine wpSk_take (i := 2) (v := ?hv2) rfl (by kernel_rfl) (fun _ _ _ h => h) (Or.inl ⟨by rfl, ?hy2⟩) (by assumption) ?hr2
  case hy2 => (intro wS hSw; (try dsimp only at hSw); go_simp; (try with_reducible rfl))
  try simp only [Act.put, layS, layZ, layC]
  refine wpSk_take (i := 3) (v := ?hv3) rfl (by kernel_rfl) (fun _ _ _ h => h) (Or.inl ⟨by rfl, ?hy3⟩) (by assumption) ?hr3
  case hy3 => (intro wS hSw; (try dsimp only at hSw); go_simp; (try with_reducible rfl))
  try simp only [Act.put, layS, layZ, layC]
  refine wpSk_take (i := 4) (v := ?hv4) rfl (by kernel_rfl) (fun _ _ _ h => h) (Or.inl ⟨by rfl, ?hy4⟩) (by assumption) ?hr4
  case hy4 => (intro wS hSw; (try dsimp only at hSw); go_simp; (try with_reducible rfl))
  try simp only [Act.put, layS, layZ, layC]
  refine wpSk_take (i := 5) (v := ?hv5) rfl (by kernel_rfl) (fun _ _ _ h => h) (Or.inl ⟨by rfl, ?hy5⟩) (by assumption) ?hr5
  case hy5 => (intro wS hSw; (try dsimp only at hSw); go_simp; (try with_reducible rfl))
  try simp only [Act.put, layS, layZ, layC]
  refine wpSk_take (i := 6) (v := ?hv6) rfl (by kernel_rfl) (fun _ _ _ h => h) (Or.inl ⟨by rfl, ?hy6⟩) (by assumption) ?hr6
  case hy6 => (intro wS hSw; (try dsimp only at hSw); go_simp; (try with_reducible rfl))
  try simp only [Act.put, layS, layZ, layC]
  refine wpSk_take (i := 7) (v := ?hv7) rfl (by kernel_rfl) (fun _ _ _ h => h) (Or.inl ⟨by rfl, ?hy7⟩) (by assumption) ?hr7
  case hy7 => (intro wS hSw; (try dsimp only at hSw); go_simp; (try with_reducible rfl))
  try simp only [Act.put, layS, layZ, layC]
  refine wpSk_take (i := 8) (v := ?hv8) rfl (by kernel_rfl) (fun _ _ _ h => h) (Or.inl ⟨by rfl, ?hy8⟩) (by assumption) ?hr8
  case hy8 => (intro wS hSw; (try dsimp only at hSw); go_simp; (try with_reducible rfl))
  try simp only [Act.put, layS, layZ, layC]
  refine wpSk_take (i := 9) (v := ?hv9) rfl (by kernel_rfl) (fun _ _ _ h => h) (Or.inl ⟨by rfl, ?hy9⟩) (by assumption) ?hr9
  case hy9 => (intro wS hSw; (try dsimp only at hSw); go_simp; (try with_reducible rfl))
  try simp only [Act.put, layS, layZ, layC]
  refine wpSk_take (i := 10) (v := ?hv10) rfl (by kernel_rfl) (fun _ _ _ h => h) (Or.inl ⟨by rfl, ?hy10⟩) (by assumption) ?hr10
  case hy10 => (intro wS hSw; (try dsimp only at hSw); go_simp; (try with_reducible rfl))
  try simp only [Act.put, layS, layZ, layC]
  refine wpSk_step (i := 11) (by kernel_rfl) rfl (fun K hK => ?_)
  go_simp
  have hcl := impl_PlaceOf (.slice pA env.P.length pc) env.P xs u0.drew IS0.out; refine hcl.mono ?_; clear hcl; rintro e w' ⟨rfl, rfl⟩
  refine hK.out _ _ (fun _ => hHeld) ?_
  clear hK K
  try simp only [Act.put, layS, layZ, layC]
  refine wpSk_take (i := 12) (v := ?hv12) rfl (by kernel_rfl) (fun _ _ _ h => h) (Or.inl ⟨by rfl, ?hy12⟩) (by assumption) ?hr12
  case hy12 => (intro wS hSw; (try dsimp only at hSw); go_simp; (try with_reducible rfl))
  try simp only [Act.put, layS, layZ, layC]
  refine wpSk_step (i := 13) (by kernel_rfl) rfl (fun K hK => ?_)
  go_simp
  refine hK.out _ _ (fun _ => (show (SpJ kb sb (.slice gA env.G.length gc) (.slice lA env.L.length lc) (.slice pA env.P.length pc) (.slice A0 n0 c0) (.string xs) (.int .i64 tk) (.int .i64 tn) (.string ts) (.slice tA tm tc) u0.drew) from hHeld).alloc _) ?_
  clear hK K hHeld
  try simp only [Act.put, layS, layZ, layC]
  refine wpSk_step (i := 14) (by kernel_rfl) rfl (fun K hK => ?_)
  refine step_appG _ inT (by rfl) _ _ (by rfl) (by rfl) (OW0.out.alloc _) _ 1 1 [.int .i64 5, .int .i64 (placeS env.P xs), .int .i64 0, .int .i64 0, .string ⟨#[]⟩, .slice none 0 0, .int .i64 0] (by rfl) (by first | exact Rd.new _ 7 1 _ _ rfl | exact (Rd.new _ 7 1 _ _ rfl).drew) (by simp [Value.oneCell']) tst1 (by decide) ?_
  intro v' wz0 own' gr'
  have GZ0' : Grew (.slice A0 n0 c0) v' u0.drew wz0 := (Grew.of_below (Below.alloc (Below.refl _ _) (Nat.le_refl _) _)).trans gr'
  have hog : (Value.slice A0 n0 c0).ownBlock ≠ some kb := (fun e => by have := (HAT0.out.ow.lt kb e).1; omega)
  have KZ0 := Lib.hid ((GZ0'.keep.block kb (lt_of_block KY0.out) hog).trans KY0.out)
  have hogs : (Value.slice A0 n0 c0).ownBlock ≠ some sb := (fun e => HAT0.out.clear sb e hZsb)
  have SZ0 := Lib.hid ((GZ0'.keep.block sb (lt_of_block SY0.out) hogs).trans SY0.out)
  have hNew : (SpJ kb sb (.slice gA env.G.length gc) (.slice lA env.L.length lc) (.slice pA env.P.length pc) (.slice A0 n0 c0) (.string xs) (.int .i64 tk) (.int .i64 tn) (.string ts) (.slice tA tm tc) wz0) := spJ_of KZ0.out SZ0.out
  obtain ⟨A1, c1, rfl, _⟩ := own'.slice
  obtain ⟨n1, hn1⟩ : ∃ n, n0 + 1 = n := ⟨_, rfl⟩
  rw [hn1] at own' GZ0' ⊢
  have HNN0 : Hid (cu0.length + 1 = n1) := Lib.hid (by rw [HL0.out]; exact hn1)
  have OWN0 : Hid (Own (cutX base u0.drew) wz0 78 7 (.slice A1 n1 c1) (cu0.length + 1) (cs0.flatten ++ [.int .i64 5, .int .i64 (placeS env.P xs), .int .i64 0, .int .i64 0, .string ⟨#[]⟩, .slice none 0 0, .int .i64 0])) := Lib.hid (by rw [HNN0.out]; exact own')
  have GZ0 := Lib.hid GZ0'
  clear own' gr' GZ0' hn1
  refine hK.out _ _ (fun _ => hNew) ?_
  clear hK K
  have hHeld := hNew
  clear hNew
  try simp only [Act.put, layS, layZ, layC]
  refine wpSk_take (i := 15) (v := ?hv15) rfl (by kernel_rfl) (fun _ _ _ h => h) (Or.inl ⟨by rfl, ?hy15⟩) (by assumption) ?hr15
  case hy15 => (intro wS hSw; (try dsimp only at hSw); go_simp; (try with_reducible rfl))
  try simp only [Act.put, layS, layZ, layC]
  refine wpSk_take (i := 16) (v := ?hv16) rfl (by kernel_rfl) (fun _ _ _ h => h) (Or.inl ⟨by rfl, ?hy16⟩) (by assumption) ?hr16
  case hy16 => (intro wS hSw; (try dsimp only at hSw); go_simp; (try with_reducible rfl))
  try simp only [Act.put, layS, layZ, layC]
  clear hHeld hS0
  obtain ⟨y00, y01, y02, y03, y04, yf03, yf04⟩ := box5 KZ0.out
  have hy0 := lt_of_block KZ0.out
  refine wpSk_step (i := 17) (by kernel_rfl) rfl (fun K hK => ?_)
  go_simp
  refine hK.out _ _ (fun h => absurd h (by decide)) ?_
  clear hK K
  refine wpSk_done (by kernel_rfl) ?_ _
  refine NoPanic.normal ?_
  clear k00 k01 k02 k03 k04 f03 f04 s00 s01 s02 s03 s04 s05 s06 s07 hk0 hs0
  clear tst1 y00 y01 y02 y03 y04 yf03 yf04 hy0
  skip
  have DONE := grwi_app (o := 4) hkb HAT0.out BY0.out (icP_zero _ 5 (placeS env.P xs) 0 (by unfold i64in; omega) (placeS_in _ _ (by have := HEB.out; omega)) (by unfold i64in; omega)) (fun b hb => hb.elim) HZS0.out OWN0.out GZ0.out (.slice A1 n1 c1)
  have HN1 : Hid (cu0.length + 1 = n1) := Lib.hid HNN0.out
  obtain ⟨cu1, hcu1⟩ : ∃ cu, cu0 ++ [⟨5, (placeS env.P xs), zeroTm, 0⟩] = cu := ⟨_, rfl⟩
  rw [hcu1] at DONE
  have HC1 := Lib.hid hcu1
  have HL1 : Hid (cu1.length = n1) := Lib.hid (by rw [← hcu1, ← HN1.out]; simp)
  clear hcu1
  have KB1 : Hid ((wz0.setCell ⟨kb, 4, none⟩ (.slice A1 n1 c1)).heap[kb]? = some (.cells #[.slice gA env.G.length gc, .slice lA env.L.length lc, .slice pA env.P.length pc, .slice eA en ec, .slice A1 n1 c1] 48 (0, 0))) := Lib.hid (s5_4 ((DONE.2.2 kb (.inr hkb)).trans KB0.out) _)
  have SB1 : Hid ((wz0.setCell ⟨kb, 4, none⟩ (.slice A1 n1 c1)).heap[sb]? = some (.cells #[.int .i64 5, .string xs, .int .i64 tk, .int .i64 tn, .string ts, .slice tA tm tc, .slice bA body.length bc, .slice oA els.length oc] 36 (0, 0))) := Lib.hid ((Below.heap_setCell wz0 ⟨kb, 4, none⟩ _ sb hnsk).trans ((DONE.2.2 sb (.inl hZsb)).trans SB0.out))
  have GR1 := Lib.hid DONE.1
  have KP1 := Lib.hid (KP0.out.trans DONE.2.1 (fun _ _ h => h))
  clear DONE
  obtain ⟨u1, hu1⟩ : ∃ u, wz0.setCell ⟨kb, 4, none⟩ (.slice A1 n1 c1) = u := ⟨_, rfl⟩
  rw [hu1] at KB1 SB1 GR1 KP1 ⊢
  have hu1z : u0.heap.size ≤ u1.heap.size := KP1.out.size
  have HZS1 : Hid (∀ b, Zs b → b < u1.heap.size) := Lib.hid (fun b hb => Nat.lt_of_lt_of_le (HZS0.out b hb) hu1z)
  have hub1 : n1 ≤ n0 + 1 := by have := HN1.out; have := HL0.out; omega
  have hlw1 : n0 + 1 ≤ n1 := by have := HN1.out; have := HL0.out; omega
  clear hu1
  go_wp2_with fail
  have hfin : cu1 = cu0 ++ emT env n0 (.mk 5 xs t body els) := by
    rw [← HC1.out, emT_one _ _ _ _ _ _ _ (by decide) (by decide)]; rfl
  refine HQ.out _ _ AdFr.mk ⟨A1, n1, c1, cu1, ?_, KB1.out, GR1.out.zsub (fun b _ _ h => hZsZ b h), (KPR.out.trans (Keep.of_below (S := Fz base Z kb) B0.out) (fun _ _ h => h)).trans (KP1.out.mono (fun b _ h => ⟨h.1, h.2.imp id (hZsZ b)⟩)) (fun _ _ h => h)⟩
  rw [List.take_succ_eq_append_getElem hlt, HG.out, emSs_snoc, ← List.append_assoc, ← CJ.out, hfin]
  have h1 : ni + (emSs env ni (l.take j)).length = n0 := by have h2 := HL0.out; rw [CJ.out, List.length_append, HLI.out] at h2; exact h2
  rw [h1]
end Go.Proofs.Ytadcebdhgocmhaa
