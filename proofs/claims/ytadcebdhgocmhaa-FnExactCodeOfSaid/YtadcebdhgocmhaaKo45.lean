/- Lemmas for the row. -/
import Derived.Test.YtadcebdhgocmhaaKo23
import Derived.Test.YtadcebdhgocmhaaKo43
import Derived.Test.YtadcebdhgocmhaaKo44
namespace Go.Proofs.Ytadcebdhgocmhaa
open Go.RowKit
set_option linter.unusedVariables false
set_option maxHeartbeats 6400000 in
set_option maxRecDepth 100000 in
theorem es_k6 {x2 x3 : Value} (l : List St) (ih : ∀ g ∈ l, ∀ k s t b e, g = .mk k s t b e → EsC b ∧ EsC e) (A : Option Addr) (c : Nat) (w wP : World) (eb : Nat) (pg : Pg) (gA lA pA : Option Addr) (gc lc pc : Nat) (Ai : Option Addr) (ni ci : Nat) (cur : List Ic) (base : Nat) (Z : Nat → Prop)
    (row : StRow (Fz base Z eb) w A l) (hl : l.length ≤ c) (hc : c ≤ maxLen) (hkd : kdSs l) (htot : totGs l ≤ 1048577) (hsz : cur.length + 2 * snodess l ≤ 100000)
    (hpg : PgIs wP ⟨gA, gc, lA, lc, pA, pc⟩ pg) (hbp : Below wP.heap.size wP w) (hPe : wP.heap.size ≤ eb) (henv : pg.globals.length ≤ 1000 ∧ pg.locks.length ≤ 1000 ∧ (pnames pg.procs).length ≤ 1000)
    (heb : eb < base) (hbase : base ≤ w.heap.size) (hZ : ∀ b, Z b → b < w.heap.size) (HLI : Hid (cur.length = ni))
    (j : Nat) (hlt : j < l.length) (wr : World) (hrel : EsJ w wr eb pg gA lA pA gc lc pc ni cur base Z l j)
    (hkn : ∀ k s t b e, l[j] = .mk k s t b e → k = 6) (Q : Exit → Act → World → Prop) (hQ : ∀ a' w', EsFr (.pointer (some ⟨eb, 0, none⟩)) (.slice A l.length c) x2 x3 (.int .i64 ((j : Int) + 1)) a' → EsJ w w' eb pg gA lA pA gc lc pc ni cur base Z l (j + 1) → Q .normal a' w') : ∀ a, EsFr (.pointer (some ⟨eb, 0, none⟩)) (.slice A l.length c) x2 x3 (.int .i64 (j : Int)) a → Code.wp Try.prog esBody Q a wr := by
  have IH := Lib.hid ih
  have RW := Lib.hid row
  have KDS := Lib.hid hkd
  have HPG := Lib.hid hpg
  have HBP := Lib.hid hbp
  have HEB := Lib.hid henv
  have HZ := Lib.hid hZ
  have HQ := Lib.hid hQ
  unfold maxLen at hc
  have hwPw := hbp.size
  clear ih row hkd hpg hbp henv hZ hQ
  obtain ⟨A0, n0, c0, cu0, hcj, hkbx, hgr, hkp⟩ := hrel
  have CJ := Lib.hid hcj
  have KPR := Lib.hid hkp
  have KBR := Lib.hid hkbx
  have GRR := Lib.hid hgr
  have HL0 : Hid (cu0.length = n0) := Lib.hid (by obtain ⟨_, _, e, _, _⟩ := hgr.slice; injection e with _ e; exact e.symm)
  have hwsz := hkp.size
  have hroom : n0 + 2 * snodes l[j] ≤ 100000 := by
    have h1 := emSs_here (envP pg) ni l j hlt
    have h2 := HL0.out
    rw [hcj, List.length_append] at h2
    omega
  obtain ⟨b, off, x, rfl, hFb, ⟨d0, d1, d2, d3, d4, d5, d6, d7⟩, hst⟩ := rd_stmt (RW.out.keep (keep_cell hkp) (fun _ _ h => h)) hlt
  have hk1 := kdSs_mem KDS.out (List.getElem_mem hlt)
  have htg := totGs_ltE (List.getElem_mem hlt)
  have hkn' := hkn
  have hih := IH.out _ (List.getElem_mem hlt)
  generalize hG : l[j] = gj at hroom hst hk1 htg hih hkn'
  obtain ⟨xk, xs, tk, tn, ts, tA, tm, tc, bA, bm, bc, oA, om, oc⟩ := x
  obtain ⟨t, body, els, rfl, hki, hxs, htm, hbm, hb1, hb2, rowb, hem, he1, he2, rowe⟩ := hst.inv
  simp only at d0 d1 d2 d3 d4 d5 d6 d7 hki hxs htm hbm hb1 hb2 rowb hem he1 he2 rowe hG hroom hk1 htg hih
  clear hkn
  subst hbm hem
  have HG := Lib.hid hG
  rw [kdT] at hk1
  rw [totG] at htg
  rw [snodes] at hroom
  obtain ⟨hx1, hx8, hkdb, hkde⟩ := hk1
  obtain ⟨ihb, ihe⟩ := hih _ _ _ _ _ rfl
  have IHB := Lib.hid ihb
  have IHE := Lib.hid ihe
  have KDB := Lib.hid hkdb
  have KDE := Lib.hid hkde
  have HTB : Hid (totGs body ≤ 1048576) := Lib.hid (by omega)
  have HTE : Hid (totGs els ≤ 1048576) := Lib.hid (by omega)
  have HTT : Hid (totT t ≤ 1048576) := Lib.hid (by omega)
  have TMR := Lib.hid htm
  have RBR := Lib.hid rowb
  have RER := Lib.hid rowe
  clear hst hih hG hki hxs htm rowb rowe hkdb hkde ihb ihe htg hcj
  have hlb := cell_lt d0
  obtain ⟨sb, hsb⟩ : ∃ sb, wr.heap.size = sb := ⟨_, rfl⟩
  obtain ⟨Zs, hZsZ, hZsb, hZsi⟩ : ∃ Zs : Nat → Prop, (∀ b, Z b → Zs b) ∧ Zs sb ∧ ∀ b, Zs b → Z b ∨ b = sb := ⟨fun b => Z b ∨ b = sb, fun b h => .inl h, .inr rfl, fun b h => h⟩
  have hnsk : ¬ sb = eb := by omega
  have hnks : ¬ eb = sb := by omega
  obtain ⟨u0, hu0⟩ : ∃ u0, wr.alloc (.cells #[.int .i64 xk, .string xs, .int .i64 tk, .int .i64 tn, .string ts, .slice tA tm tc, .slice bA body.length bc, .slice oA els.length oc] 36) = u0 := ⟨_, rfl⟩
  have B0 : Hid (Below wr.heap.size wr u0) := Lib.hid (by rw [← hu0]; exact Below.alloc (Below.refl _ _) (Nat.le_refl _) _)
  have SB0 : Hid (u0.heap[sb]? = some (.cells #[.int .i64 xk, .string xs, .int .i64 tk, .int .i64 tn, .string ts, .slice tA tm tc, .slice bA body.length bc, .slice oA els.length oc] 36 (0, 0))) := Lib.hid (by rw [← hsb, ← hu0]; exact heap_alloc_new _ _)
  have KB0 := Lib.hid ((B0.out.block eb (lt_of_block KBR.out)).trans KBR.out)
  have GR0 : Hid (GrwI base Zs u0 (.slice A0 n0 c0) cu0) := Lib.hid ((GRR.out.zsub (fun b _ h2 h => (hZsi b h).elim id (fun e => by omega))).below IcP.keepP B0.out)
  have KP0 : Hid (Keep (Fz base Zs eb) u0 u0) := Lib.hid (Keep.refl _ _)
  have HZS0 : Hid (∀ b, Zs b → b < u0.heap.size) := Lib.hid (fun b h => by
    have h1 := lt_of_block SB0.out
    rcases hZsi b h with h | h
    · have := HZ.out b h; have := B0.out.size; omega
    · omega)
  have hz0 : wr.heap.size ≤ u0.heap.size := B0.out.size
  have hfz : ∀ b, b < wr.heap.size → Fz base Z eb b → Fz base Zs eb b := fun b _ h => ⟨h.1, h.2.imp id (hZsZ b)⟩
  have KW : Hid (Keep (Fz base Z eb) w u0) := Lib.hid (KPR.out.trans (Keep.of_below (S := Fz base Z eb) B0.out) (fun _ _ h => h))
  have BP0 : Hid (Below wP.heap.size wP u0) := Lib.hid (below_kp HBP.out KW.out (by omega) (fun b hb => ⟨by omega, .inl (by omega)⟩))
  have hPz : wP.heap.size ≤ u0.heap.size := by omega
  have hPS : ∀ b, b < wP.heap.size → Fz base Zs eb b := fun b hb => ⟨by omega, .inl (by omega)⟩
  have TM0 := Lib.hid (TMR.out.keep (keep_cell (Keep.of_below (S := Fz base Z eb) B0.out)) (F' := Fz base Zs eb) (fun b hb h => hfz b hb h))
  have RB0 := Lib.hid (RBR.out.keep (keep_cell (Keep.of_below (S := Fz base Z eb) B0.out)) (F' := Fz base Zs eb) (fun b hb h => hfz b hb h))
  have RE0 := Lib.hid (RER.out.keep (keep_cell (Keep.of_below (S := Fz base Z eb) B0.out)) (F' := Fz base Zs eb) (fun b hb h => hfz b hb h))
  clear KBR GRR TMR RBR RER hfz
  obtain rfl : xk = 6 := hkn' _ _ _ _ _ rfl
  clear hkn'
  refine EsFr.all ?_
  intros
  conv => arg 2; whnf
  obtain ⟨k00, k01, k02, k03, f03⟩ := box4 KB0.out
  obtain ⟨s00, s01, s02, s03, s04, s05, s06, s07⟩ := cells8 SB0.out
  have hk0 := lt_of_block KB0.out
  have hs0 := lt_of_block SB0.out
  have BD0 : Hid (Below u0.heap.size u0 u0.drew) := Lib.hid (Below.refl _ _).drew
  have PGR0 := Lib.hid (HPG.out.belowA (below_kp BP0.out KP0.out hPz hPS))
  have PGD0 := Lib.hid (PGR0.out.belowA BD0.out)
  go_upto_region 12 with fail
  go_region_held3 (fun w' => w'.cell? ⟨eb, 0, none⟩ = some (.slice gA pg.globals.length gc) ∧ w'.cell? ⟨eb, 1, none⟩ = some (.slice lA pg.locks.length lc) ∧ w'.cell? ⟨eb, 2, none⟩ = some (.slice pA pg.procs.length pc) ∧ w'.cell? ⟨sb, 1, none⟩ = some (.string xs) ∧ w'.cell? ⟨sb, 2, none⟩ = some (.int .i64 tk) ∧ w'.cell? ⟨sb, 3, none⟩ = some (.int .i64 tn) ∧ w'.cell? ⟨sb, 4, none⟩ = some (.string ts) ∧ w'.cell? ⟨sb, 5, none⟩ = some (.slice tA tm tc) ∧ eb < w'.heap.size ∧ sb < w'.heap.size)
    (first | (with_reducible assumption) | exact spE_of KB0.out SB0.out | exact spE_of KB1.out SB1.out | exact spE_of KY0.out SY0.out)
    (first
      | (go_simp; go_at_call 82; have hcl := spec_PlaceOf (.slice lA pg.locks.length lc) pg.locks xs _ (by first | exact PGD0.out.ls | exact PGY0.out.ls); refine hcl.mono ?_; clear hcl; rintro e w' ⟨rfl, rfl⟩)
      | (go_simp; go_at_call 46; have hcl := spec_l08Put u0 u0.drew eb gA lA pA A0 none pg.globals.length gc pg.locks.length lc pg.procs.length pc n0 c0 0 0 6 (placeS pg.locks xs) 0 0 0 ⟨#[]⟩ cu0 ⟨6, (placeS pg.locks xs), zeroTm, 0⟩ base Zs NoB BD0.out KB0.out GR0.out heb (by omega) HZS0.out (icP_zero _ 6 (placeS pg.locks xs) 0 (i64_of (by omega) (by omega)) (placeS_in _ _ (by have := HEB.out; omega)) (i64_of (by omega) (by omega))) (fun b hb => hb.elim) (by omega); refine hcl.mono ?_; clear hcl; rintro e u1 ⟨rfl, A1, n1, c1, hkb1, hn1, hgr1, kp1⟩; have KB1 := Lib.hid hkb1; have HN1 := Lib.hid hn1; have GRa1 := Lib.hid hgr1; have KPa1 := Lib.hid kp1; have SB1 := Lib.hid ((kp1.block sb hs0 ⟨hnsk, .inr hZsb⟩).trans SB0.out); clear hkb1 hn1 hgr1 kp1))
  all_goals
    clear k00 k01 k02 k03 f03 s00 s01 s02 s03 s04 s05 s06 s07 hk0 hs0
    obtain ⟨cu1, hcu1⟩ : ∃ cu, cu0 ++ [⟨6, (placeS pg.locks xs), zeroTm, 0⟩] = cu := ⟨_, rfl⟩
    have HC1 := Lib.hid hcu1
    have GR1 : Hid (GrwI base Zs u1 (.slice A1 n1 c1) cu1) := Lib.hid (by rw [← hcu1]; exact GRa1.out)
    have HL1 : Hid (cu1.length = n1) := Lib.hid (by rw [← hcu1, HN1.out, ← HL0.out]; simp)
    have KP1 := Lib.hid (KP0.out.trans KPa1.out (fun _ _ h => h))
    have hu1z : u0.heap.size ≤ u1.heap.size := KP1.out.size
    have HZS1 : Hid (∀ b, Zs b → b < u1.heap.size) := Lib.hid (fun b hb => Nat.lt_of_lt_of_le (HZS0.out b hb) hu1z)
    have hub1 : n1 ≤ n0 + 1 := Nat.le_of_eq HN1.out
    have hlw1 : n0 + 1 ≤ n1 := Nat.le_of_eq HN1.out.symm
    clear hcu1 GRa1 KPa1
    go_wp2_with fail
    have hfin : cu1 = cu0 ++ emT (envP pg) n0 (.mk 6 xs t body els) := by
      rw [← HC1.out, emT_one _ _ _ _ _ _ _ (by decide) (by decide)]; rfl
    refine HQ.out _ _ EsFr.mk ⟨A1, n1, c1, cu1, ?_, KB1.out, GR1.out.zsub (fun b _ _ h => hZsZ b h), (KPR.out.trans (Keep.of_below (S := Fz base Z eb) B0.out) (fun _ _ h => h)).trans (KP1.out.mono (fun b _ h => ⟨h.1, h.2.imp id (hZsZ b)⟩)) (fun _ _ h => h)⟩
    rw [List.take_succ_eq_append_getElem hlt, HG.out, emSs_snoc, ← List.append_assoc, ← CJ.out, hfin]
    have h1 : ni + (emSs (envP pg) ni (l.take j)).length = n0 := by have h2 := HL0.out; rw [CJ.out, List.length_append, HLI.out] at h2; exact h2
    rw [h1]
set_option maxHeartbeats 6400000 in
set_option maxRecDepth 100000 in
theorem es_k7 {x2 x3 : Value} (l : List St) (ih : ∀ g ∈ l, ∀ k s t b e, g = .mk k s t b e → EsC b ∧ EsC e) (A : Option Addr) (c : Nat) (w wP : World) (eb : Nat) (pg : Pg) (gA lA pA : Option Addr) (gc lc pc : Nat) (Ai : Option Addr) (ni ci : Nat) (cur : List Ic) (base : Nat) (Z : Nat → Prop)
    (row : StRow (Fz base Z eb) w A l) (hl : l.length ≤ c) (hc : c ≤ maxLen) (hkd : kdSs l) (htot : totGs l ≤ 1048577) (hsz : cur.length + 2 * snodess l ≤ 100000)
    (hpg : PgIs wP ⟨gA, gc, lA, lc, pA, pc⟩ pg) (hbp : Below wP.heap.size wP w) (hPe : wP.heap.size ≤ eb) (henv : pg.globals.length ≤ 1000 ∧ pg.locks.length ≤ 1000 ∧ (pnames pg.procs).length ≤ 1000)
    (heb : eb < base) (hbase : base ≤ w.heap.size) (hZ : ∀ b, Z b → b < w.heap.size) (HLI : Hid (cur.length = ni))
    (j : Nat) (hlt : j < l.length) (wr : World) (hrel : EsJ w wr eb pg gA lA pA gc lc pc ni cur base Z l j)
    (hkn : ∀ k s t b e, l[j] = .mk k s t b e → k = 7) (Q : Exit → Act → World → Prop) (hQ : ∀ a' w', EsFr (.pointer (some ⟨eb, 0, none⟩)) (.slice A l.length c) x2 x3 (.int .i64 ((j : Int) + 1)) a' → EsJ w w' eb pg gA lA pA gc lc pc ni cur base Z l (j + 1) → Q .normal a' w') : ∀ a, EsFr (.pointer (some ⟨eb, 0, none⟩)) (.slice A l.length c) x2 x3 (.int .i64 (j : Int)) a → Code.wp Try.prog esBody Q a wr := by
  have IH := Lib.hid ih
  have RW := Lib.hid row
  have KDS := Lib.hid hkd
  have HPG := Lib.hid hpg
  have HBP := Lib.hid hbp
  have HEB := Lib.hid henv
  have HZ := Lib.hid hZ
  have HQ := Lib.hid hQ
  unfold maxLen at hc
  have hwPw := hbp.size
  clear ih row hkd hpg hbp henv hZ hQ
  obtain ⟨A0, n0, c0, cu0, hcj, hkbx, hgr, hkp⟩ := hrel
  have CJ := Lib.hid hcj
  have KPR := Lib.hid hkp
  have KBR := Lib.hid hkbx
  have GRR := Lib.hid hgr
  have HL0 : Hid (cu0.length = n0) := Lib.hid (by obtain ⟨_, _, e, _, _⟩ := hgr.slice; injection e with _ e; exact e.symm)
  have hwsz := hkp.size
  have hroom : n0 + 2 * snodes l[j] ≤ 100000 := by
    have h1 := emSs_here (envP pg) ni l j hlt
    have h2 := HL0.out
    rw [hcj, List.length_append] at h2
    omega
  obtain ⟨b, off, x, rfl, hFb, ⟨d0, d1, d2, d3, d4, d5, d6, d7⟩, hst⟩ := rd_stmt (RW.out.keep (keep_cell hkp) (fun _ _ h => h)) hlt
  have hk1 := kdSs_mem KDS.out (List.getElem_mem hlt)
  have htg := totGs_ltE (List.getElem_mem hlt)
  have hkn' := hkn
  have hih := IH.out _ (List.getElem_mem hlt)
  generalize hG : l[j] = gj at hroom hst hk1 htg hih hkn'
  obtain ⟨xk, xs, tk, tn, ts, tA, tm, tc, bA, bm, bc, oA, om, oc⟩ := x
  obtain ⟨t, body, els, rfl, hki, hxs, htm, hbm, hb1, hb2, rowb, hem, he1, he2, rowe⟩ := hst.inv
  simp only at d0 d1 d2 d3 d4 d5 d6 d7 hki hxs htm hbm hb1 hb2 rowb hem he1 he2 rowe hG hroom hk1 htg hih
  clear hkn
  subst hbm hem
  have HG := Lib.hid hG
  rw [kdT] at hk1
  rw [totG] at htg
  rw [snodes] at hroom
  obtain ⟨hx1, hx8, hkdb, hkde⟩ := hk1
  obtain ⟨ihb, ihe⟩ := hih _ _ _ _ _ rfl
  have IHB := Lib.hid ihb
  have IHE := Lib.hid ihe
  have KDB := Lib.hid hkdb
  have KDE := Lib.hid hkde
  have HTB : Hid (totGs body ≤ 1048576) := Lib.hid (by omega)
  have HTE : Hid (totGs els ≤ 1048576) := Lib.hid (by omega)
  have HTT : Hid (totT t ≤ 1048576) := Lib.hid (by omega)
  have TMR := Lib.hid htm
  have RBR := Lib.hid rowb
  have RER := Lib.hid rowe
  clear hst hih hG hki hxs htm rowb rowe hkdb hkde ihb ihe htg hcj
  have hlb := cell_lt d0
  obtain ⟨sb, hsb⟩ : ∃ sb, wr.heap.size = sb := ⟨_, rfl⟩
  obtain ⟨Zs, hZsZ, hZsb, hZsi⟩ : ∃ Zs : Nat → Prop, (∀ b, Z b → Zs b) ∧ Zs sb ∧ ∀ b, Zs b → Z b ∨ b = sb := ⟨fun b => Z b ∨ b = sb, fun b h => .inl h, .inr rfl, fun b h => h⟩
  have hnsk : ¬ sb = eb := by omega
  have hnks : ¬ eb = sb := by omega
  obtain ⟨u0, hu0⟩ : ∃ u0, wr.alloc (.cells #[.int .i64 xk, .string xs, .int .i64 tk, .int .i64 tn, .string ts, .slice tA tm tc, .slice bA body.length bc, .slice oA els.length oc] 36) = u0 := ⟨_, rfl⟩
  have B0 : Hid (Below wr.heap.size wr u0) := Lib.hid (by rw [← hu0]; exact Below.alloc (Below.refl _ _) (Nat.le_refl _) _)
  have SB0 : Hid (u0.heap[sb]? = some (.cells #[.int .i64 xk, .string xs, .int .i64 tk, .int .i64 tn, .string ts, .slice tA tm tc, .slice bA body.length bc, .slice oA els.length oc] 36 (0, 0))) := Lib.hid (by rw [← hsb, ← hu0]; exact heap_alloc_new _ _)
  have KB0 := Lib.hid ((B0.out.block eb (lt_of_block KBR.out)).trans KBR.out)
  have GR0 : Hid (GrwI base Zs u0 (.slice A0 n0 c0) cu0) := Lib.hid ((GRR.out.zsub (fun b _ h2 h => (hZsi b h).elim id (fun e => by omega))).below IcP.keepP B0.out)
  have KP0 : Hid (Keep (Fz base Zs eb) u0 u0) := Lib.hid (Keep.refl _ _)
  have HZS0 : Hid (∀ b, Zs b → b < u0.heap.size) := Lib.hid (fun b h => by
    have h1 := lt_of_block SB0.out
    rcases hZsi b h with h | h
    · have := HZ.out b h; have := B0.out.size; omega
    · omega)
  have hz0 : wr.heap.size ≤ u0.heap.size := B0.out.size
  have hfz : ∀ b, b < wr.heap.size → Fz base Z eb b → Fz base Zs eb b := fun b _ h => ⟨h.1, h.2.imp id (hZsZ b)⟩
  have KW : Hid (Keep (Fz base Z eb) w u0) := Lib.hid (KPR.out.trans (Keep.of_below (S := Fz base Z eb) B0.out) (fun _ _ h => h))
  have BP0 : Hid (Below wP.heap.size wP u0) := Lib.hid (below_kp HBP.out KW.out (by omega) (fun b hb => ⟨by omega, .inl (by omega)⟩))
  have hPz : wP.heap.size ≤ u0.heap.size := by omega
  have hPS : ∀ b, b < wP.heap.size → Fz base Zs eb b := fun b hb => ⟨by omega, .inl (by omega)⟩
  have TM0 := Lib.hid (TMR.out.keep (keep_cell (Keep.of_below (S := Fz base Z eb) B0.out)) (F' := Fz base Zs eb) (fun b hb h => hfz b hb h))
  have RB0 := Lib.hid (RBR.out.keep (keep_cell (Keep.of_below (S := Fz base Z eb) B0.out)) (F' := Fz base Zs eb) (fun b hb h => hfz b hb h))
  have RE0 := Lib.hid (RER.out.keep (keep_cell (Keep.of_below (S := Fz base Z eb) B0.out)) (F' := Fz base Zs eb) (fun b hb h => hfz b hb h))
  clear KBR GRR TMR RBR RER hfz
  obtain rfl : xk = 7 := hkn' _ _ _ _ _ rfl
  clear hkn'
  refine EsFr.all ?_
  intros
  conv => arg 2; whnf
  obtain ⟨k00, k01, k02, k03, f03⟩ := box4 KB0.out
  obtain ⟨s00, s01, s02, s03, s04, s05, s06, s07⟩ := cells8 SB0.out
  have hk0 := lt_of_block KB0.out
  have hs0 := lt_of_block SB0.out
  have BD0 : Hid (Below u0.heap.size u0 u0.drew) := Lib.hid (Below.refl _ _).drew
  have PGR0 := Lib.hid (HPG.out.belowA (below_kp BP0.out KP0.out hPz hPS))
  have PGD0 := Lib.hid (PGR0.out.belowA BD0.out)
  go_upto_region 14 with fail
  go_region_held3 (fun w' => w'.cell? ⟨eb, 0, none⟩ = some (.slice gA pg.globals.length gc) ∧ w'.cell? ⟨eb, 1, none⟩ = some (.slice lA pg.locks.length lc) ∧ w'.cell? ⟨eb, 2, none⟩ = some (.slice pA pg.procs.length pc) ∧ w'.cell? ⟨sb, 1, none⟩ = some (.string xs) ∧ w'.cell? ⟨sb, 2, none⟩ = some (.int .i64 tk) ∧ w'.cell? ⟨sb, 3, none⟩ = some (.int .i64 tn) ∧ w'.cell? ⟨sb, 4, none⟩ = some (.string ts) ∧ w'.cell? ⟨sb, 5, none⟩ = some (.slice tA tm tc) ∧ eb < w'.heap.size ∧ sb < w'.heap.size)
    (first | (with_reducible assumption) | exact spE_of KB0.out SB0.out | exact spE_of KB1.out SB1.out | exact spE_of KY0.out SY0.out)
    (first
      | (go_simp; go_at_call 82; have hcl := spec_PlaceOf (.slice lA pg.locks.length lc) pg.locks xs _ (by first | exact PGD0.out.ls | exact PGY0.out.ls); refine hcl.mono ?_; clear hcl; rintro e w' ⟨rfl, rfl⟩)
      | (go_simp; go_at_call 46; have hcl := spec_l08Put u0 u0.drew eb gA lA pA A0 none pg.globals.length gc pg.locks.length lc pg.procs.length pc n0 c0 0 0 7 (placeS pg.locks xs) 0 0 0 ⟨#[]⟩ cu0 ⟨7, (placeS pg.locks xs), zeroTm, 0⟩ base Zs NoB BD0.out KB0.out GR0.out heb (by omega) HZS0.out (icP_zero _ 7 (placeS pg.locks xs) 0 (i64_of (by omega) (by omega)) (placeS_in _ _ (by have := HEB.out; omega)) (i64_of (by omega) (by omega))) (fun b hb => hb.elim) (by omega); refine hcl.mono ?_; clear hcl; rintro e u1 ⟨rfl, A1, n1, c1, hkb1, hn1, hgr1, kp1⟩; have KB1 := Lib.hid hkb1; have HN1 := Lib.hid hn1; have GRa1 := Lib.hid hgr1; have KPa1 := Lib.hid kp1; have SB1 := Lib.hid ((kp1.block sb hs0 ⟨hnsk, .inr hZsb⟩).trans SB0.out); clear hkb1 hn1 hgr1 kp1))
  all_goals
    clear k00 k01 k02 k03 f03 s00 s01 s02 s03 s04 s05 s06 s07 hk0 hs0
    obtain ⟨cu1, hcu1⟩ : ∃ cu, cu0 ++ [⟨7, (placeS pg.locks xs), zeroTm, 0⟩] = cu := ⟨_, rfl⟩
    have HC1 := Lib.hid hcu1
    have GR1 : Hid (GrwI base Zs u1 (.slice A1 n1 c1) cu1) := Lib.hid (by rw [← hcu1]; exact GRa1.out)
    have HL1 : Hid (cu1.length = n1) := Lib.hid (by rw [← hcu1, HN1.out, ← HL0.out]; simp)
    have KP1 := Lib.hid (KP0.out.trans KPa1.out (fun _ _ h => h))
    have hu1z : u0.heap.size ≤ u1.heap.size := KP1.out.size
    have HZS1 : Hid (∀ b, Zs b → b < u1.heap.size) := Lib.hid (fun b hb => Nat.lt_of_lt_of_le (HZS0.out b hb) hu1z)
    have hub1 : n1 ≤ n0 + 1 := Nat.le_of_eq HN1.out
    have hlw1 : n0 + 1 ≤ n1 := Nat.le_of_eq HN1.out.symm
    clear hcu1 GRa1 KPa1
    go_wp2_with fail
    have hfin : cu1 = cu0 ++ emT (envP pg) n0 (.mk 7 xs t body els) := by
      rw [← HC1.out, emT_one _ _ _ _ _ _ _ (by decide) (by decide)]; rfl
    refine HQ.out _ _ EsFr.mk ⟨A1, n1, c1, cu1, ?_, KB1.out, GR1.out.zsub (fun b _ _ h => hZsZ b h), (KPR.out.trans (Keep.of_below (S := Fz base Z eb) B0.out) (fun _ _ h => h)).trans (KP1.out.mono (fun b _ h => ⟨h.1, h.2.imp id (hZsZ b)⟩)) (fun _ _ h => h)⟩
    rw [List.take_succ_eq_append_getElem hlt, HG.out, emSs_snoc, ← List.append_assoc, ← CJ.out, hfin]
    have h1 : ni + (emSs (envP pg) ni (l.take j)).length = n0 := by have h2 := HL0.out; rw [CJ.out, List.length_append, HLI.out] at h2; exact h2
    rw [h1]
set_option maxHeartbeats 6400000 in
set_option maxRecDepth 100000 in
theorem es_k8 {x2 x3 : Value} (l : List St) (ih : ∀ g ∈ l, ∀ k s t b e, g = .mk k s t b e → EsC b ∧ EsC e) (A : Option Addr) (c : Nat) (w wP : World) (eb : Nat) (pg : Pg) (gA lA pA : Option Addr) (gc lc pc : Nat) (Ai : Option Addr) (ni ci : Nat) (cur : List Ic) (base : Nat) (Z : Nat → Prop)
    (row : StRow (Fz base Z eb) w A l) (hl : l.length ≤ c) (hc : c ≤ maxLen) (hkd : kdSs l) (htot : totGs l ≤ 1048577) (hsz : cur.length + 2 * snodess l ≤ 100000)
    (hpg : PgIs wP ⟨gA, gc, lA, lc, pA, pc⟩ pg) (hbp : Below wP.heap.size wP w) (hPe : wP.heap.size ≤ eb) (henv : pg.globals.length ≤ 1000 ∧ pg.locks.length ≤ 1000 ∧ (pnames pg.procs).length ≤ 1000)
    (heb : eb < base) (hbase : base ≤ w.heap.size) (hZ : ∀ b, Z b → b < w.heap.size) (HLI : Hid (cur.length = ni))
    (j : Nat) (hlt : j < l.length) (wr : World) (hrel : EsJ w wr eb pg gA lA pA gc lc pc ni cur base Z l j)
    (hkn : ∀ k s t b e, l[j] = .mk k s t b e → k = 8) (Q : Exit → Act → World → Prop) (hQ : ∀ a' w', EsFr (.pointer (some ⟨eb, 0, none⟩)) (.slice A l.length c) x2 x3 (.int .i64 ((j : Int) + 1)) a' → EsJ w w' eb pg gA lA pA gc lc pc ni cur base Z l (j + 1) → Q .normal a' w') : ∀ a, EsFr (.pointer (some ⟨eb, 0, none⟩)) (.slice A l.length c) x2 x3 (.int .i64 (j : Int)) a → Code.wp Try.prog esBody Q a wr := by
  have IH := Lib.hid ih
  have RW := Lib.hid row
  have KDS := Lib.hid hkd
  have HPG := Lib.hid hpg
  have HBP := Lib.hid hbp
  have HEB := Lib.hid henv
  have HZ := Lib.hid hZ
  have HQ := Lib.hid hQ
  unfold maxLen at hc
  have hwPw := hbp.size
  clear ih row hkd hpg hbp henv hZ hQ
  obtain ⟨A0, n0, c0, cu0, hcj, hkbx, hgr, hkp⟩ := hrel
  have CJ := Lib.hid hcj
  have KPR := Lib.hid hkp
  have KBR := Lib.hid hkbx
  have GRR := Lib.hid hgr
  have HL0 : Hid (cu0.length = n0) := Lib.hid (by obtain ⟨_, _, e, _, _⟩ := hgr.slice; injection e with _ e; exact e.symm)
  have hwsz := hkp.size
  have hroom : n0 + 2 * snodes l[j] ≤ 100000 := by
    have h1 := emSs_here (envP pg) ni l j hlt
    have h2 := HL0.out
    rw [hcj, List.length_append] at h2
    omega
  obtain ⟨b, off, x, rfl, hFb, ⟨d0, d1, d2, d3, d4, d5, d6, d7⟩, hst⟩ := rd_stmt (RW.out.keep (keep_cell hkp) (fun _ _ h => h)) hlt
  have hk1 := kdSs_mem KDS.out (List.getElem_mem hlt)
  have htg := totGs_ltE (List.getElem_mem hlt)
  have hkn' := hkn
  have hih := IH.out _ (List.getElem_mem hlt)
  generalize hG : l[j] = gj at hroom hst hk1 htg hih hkn'
  obtain ⟨xk, xs, tk, tn, ts, tA, tm, tc, bA, bm, bc, oA, om, oc⟩ := x
  obtain ⟨t, body, els, rfl, hki, hxs, htm, hbm, hb1, hb2, rowb, hem, he1, he2, rowe⟩ := hst.inv
  simp only at d0 d1 d2 d3 d4 d5 d6 d7 hki hxs htm hbm hb1 hb2 rowb hem he1 he2 rowe hG hroom hk1 htg hih
  clear hkn
  subst hbm hem
  have HG := Lib.hid hG
  rw [kdT] at hk1
  rw [totG] at htg
  rw [snodes] at hroom
  obtain ⟨hx1, hx8, hkdb, hkde⟩ := hk1
  obtain ⟨ihb, ihe⟩ := hih _ _ _ _ _ rfl
  have IHB := Lib.hid ihb
  have IHE := Lib.hid ihe
  have KDB := Lib.hid hkdb
  have KDE := Lib.hid hkde
  have HTB : Hid (totGs body ≤ 1048576) := Lib.hid (by omega)
  have HTE : Hid (totGs els ≤ 1048576) := Lib.hid (by omega)
  have HTT : Hid (totT t ≤ 1048576) := Lib.hid (by omega)
  have TMR := Lib.hid htm
  have RBR := Lib.hid rowb
  have RER := Lib.hid rowe
  clear hst hih hG hki hxs htm rowb rowe hkdb hkde ihb ihe htg hcj
  have hlb := cell_lt d0
  obtain ⟨sb, hsb⟩ : ∃ sb, wr.heap.size = sb := ⟨_, rfl⟩
  obtain ⟨Zs, hZsZ, hZsb, hZsi⟩ : ∃ Zs : Nat → Prop, (∀ b, Z b → Zs b) ∧ Zs sb ∧ ∀ b, Zs b → Z b ∨ b = sb := ⟨fun b => Z b ∨ b = sb, fun b h => .inl h, .inr rfl, fun b h => h⟩
  have hnsk : ¬ sb = eb := by omega
  have hnks : ¬ eb = sb := by omega
  obtain ⟨u0, hu0⟩ : ∃ u0, wr.alloc (.cells #[.int .i64 xk, .string xs, .int .i64 tk, .int .i64 tn, .string ts, .slice tA tm tc, .slice bA body.length bc, .slice oA els.length oc] 36) = u0 := ⟨_, rfl⟩
  have B0 : Hid (Below wr.heap.size wr u0) := Lib.hid (by rw [← hu0]; exact Below.alloc (Below.refl _ _) (Nat.le_refl _) _)
  have SB0 : Hid (u0.heap[sb]? = some (.cells #[.int .i64 xk, .string xs, .int .i64 tk, .int .i64 tn, .string ts, .slice tA tm tc, .slice bA body.length bc, .slice oA els.length oc] 36 (0, 0))) := Lib.hid (by rw [← hsb, ← hu0]; exact heap_alloc_new _ _)
  have KB0 := Lib.hid ((B0.out.block eb (lt_of_block KBR.out)).trans KBR.out)
  have GR0 : Hid (GrwI base Zs u0 (.slice A0 n0 c0) cu0) := Lib.hid ((GRR.out.zsub (fun b _ h2 h => (hZsi b h).elim id (fun e => by omega))).below IcP.keepP B0.out)
  have KP0 : Hid (Keep (Fz base Zs eb) u0 u0) := Lib.hid (Keep.refl _ _)
  have HZS0 : Hid (∀ b, Zs b → b < u0.heap.size) := Lib.hid (fun b h => by
    have h1 := lt_of_block SB0.out
    rcases hZsi b h with h | h
    · have := HZ.out b h; have := B0.out.size; omega
    · omega)
  have hz0 : wr.heap.size ≤ u0.heap.size := B0.out.size
  have hfz : ∀ b, b < wr.heap.size → Fz base Z eb b → Fz base Zs eb b := fun b _ h => ⟨h.1, h.2.imp id (hZsZ b)⟩
  have KW : Hid (Keep (Fz base Z eb) w u0) := Lib.hid (KPR.out.trans (Keep.of_below (S := Fz base Z eb) B0.out) (fun _ _ h => h))
  have BP0 : Hid (Below wP.heap.size wP u0) := Lib.hid (below_kp HBP.out KW.out (by omega) (fun b hb => ⟨by omega, .inl (by omega)⟩))
  have hPz : wP.heap.size ≤ u0.heap.size := by omega
  have hPS : ∀ b, b < wP.heap.size → Fz base Zs eb b := fun b hb => ⟨by omega, .inl (by omega)⟩
  have TM0 := Lib.hid (TMR.out.keep (keep_cell (Keep.of_below (S := Fz base Z eb) B0.out)) (F' := Fz base Zs eb) (fun b hb h => hfz b hb h))
  have RB0 := Lib.hid (RBR.out.keep (keep_cell (Keep.of_below (S := Fz base Z eb) B0.out)) (F' := Fz base Zs eb) (fun b hb h => hfz b hb h))
  have RE0 := Lib.hid (RER.out.keep (keep_cell (Keep.of_below (S := Fz base Z eb) B0.out)) (F' := Fz base Zs eb) (fun b hb h => hfz b hb h))
  clear KBR GRR TMR RBR RER hfz
  obtain rfl : xk = 8 := hkn' _ _ _ _ _ rfl
  clear hkn'
  refine EsFr.all ?_
  intros
  conv => arg 2; whnf
  obtain ⟨k00, k01, k02, k03, f03⟩ := box4 KB0.out
  obtain ⟨s00, s01, s02, s03, s04, s05, s06, s07⟩ := cells8 SB0.out
  have hk0 := lt_of_block KB0.out
  have hs0 := lt_of_block SB0.out
  go_wp2_with fail
  have hcl := spec_l08Put u0 u0 eb gA lA pA A0 none pg.globals.length gc pg.locks.length lc pg.procs.length pc n0 c0 0 0 8 0 0 0 0 ⟨#[]⟩ cu0 ⟨8, 0, zeroTm, 0⟩ base Zs NoB (Below.refl _ _) KB0.out GR0.out heb (by omega) HZS0.out (icP_zero _ 8 0 0 (i64_of (by omega) (by omega)) (i64_of (by omega) (by omega)) (i64_of (by omega) (by omega))) (fun b hb => hb.elim) (by omega)
  refine hcl.mono ?_
  clear hcl
  rintro e u1 ⟨rfl, A1, n1, c1, hkb1, hn1, hgr1, kp1⟩
  have KB1 := Lib.hid hkb1
  have HN1 := Lib.hid hn1
  have GRa1 := Lib.hid hgr1
  have KPa1 := Lib.hid kp1
  have SB1 := Lib.hid ((kp1.block sb hs0 ⟨hnsk, .inr hZsb⟩).trans SB0.out)
  clear hkb1 hn1 hgr1 kp1
  clear k00 k01 k02 k03 f03 s00 s01 s02 s03 s04 s05 s06 s07 hk0 hs0
  obtain ⟨cu1, hcu1⟩ : ∃ cu, cu0 ++ [⟨8, 0, zeroTm, 0⟩] = cu := ⟨_, rfl⟩
  have HC1 := Lib.hid hcu1
  have GR1 : Hid (GrwI base Zs u1 (.slice A1 n1 c1) cu1) := Lib.hid (by rw [← hcu1]; exact GRa1.out)
  have HL1 : Hid (cu1.length = n1) := Lib.hid (by rw [← hcu1, HN1.out, ← HL0.out]; simp)
  have KP1 := Lib.hid (KP0.out.trans KPa1.out (fun _ _ h => h))
  have hu1z : u0.heap.size ≤ u1.heap.size := KP1.out.size
  have HZS1 : Hid (∀ b, Zs b → b < u1.heap.size) := Lib.hid (fun b hb => Nat.lt_of_lt_of_le (HZS0.out b hb) hu1z)
  have hub1 : n1 ≤ n0 + 1 := Nat.le_of_eq HN1.out
  have hlw1 : n0 + 1 ≤ n1 := Nat.le_of_eq HN1.out.symm
  clear hcu1 GRa1 KPa1
  go_wp2_with fail
  have hfin : cu1 = cu0 ++ emT (envP pg) n0 (.mk 8 xs t body els) := by
    rw [← HC1.out, emT_one _ _ _ _ _ _ _ (by decide) (by decide)]; rfl
  refine HQ.out _ _ EsFr.mk ⟨A1, n1, c1, cu1, ?_, KB1.out, GR1.out.zsub (fun b _ _ h => hZsZ b h), (KPR.out.trans (Keep.of_below (S := Fz base Z eb) B0.out) (fun _ _ h => h)).trans (KP1.out.mono (fun b _ h => ⟨h.1, h.2.imp id (hZsZ b)⟩)) (fun _ _ h => h)⟩
  rw [List.take_succ_eq_append_getElem hlt, HG.out, emSs_snoc, ← List.append_assoc, ← CJ.out, hfin]
  have h1 : ni + (emSs (envP pg) ni (l.take j)).length = n0 := by have h2 := HL0.out; rw [CJ.out, List.length_append, HLI.out] at h2; exact h2
  rw [h1]
set_option maxHeartbeats 6400000 in
set_option maxRecDepth 100000 in
theorem es_of (l : List St) (ih : ∀ g ∈ l, ∀ k s t b e, g = .mk k s t b e → EsC b ∧ EsC e) : EsC l := by
  intro A c w wP eb pg gA lA pA gc lc pc Ai ni ci cur base Z row hl hc hkd htot hsz hpg hbp hPe henv heb hbase hZ hbox hgrw
  have IH := Lib.hid ih
  have RW := Lib.hid row
  have KDS := Lib.hid hkd
  have HPG := Lib.hid hpg
  have HBP := Lib.hid hbp
  have HEB := Lib.hid henv
  have HZ := Lib.hid hZ
  have KBI := Lib.hid hbox
  have GRI := Lib.hid hgrw
  have HLI : Hid (cur.length = ni) := Lib.hid (by obtain ⟨_, _, e, _, _⟩ := hgrw.slice; injection e with _ e; exact e.symm)
  unfold maxLen at hc
  clear ih row hkd hpg hbp henv hZ hbox hgrw
  go_enter Try.func45, Try.ntmps45
  go_wp2_with fail
  go_loopw [4] (fun i wr => ∃ j : Nat, j ≤ l.length ∧ i = .int .i64 j ∧ Hid (EsJ w wr eb pg gA lA pA gc lc pc ni cur base Z l j)) (fun i _ => l.length - (intOf i).toNat)
  case atStart => exact ⟨0, Nat.zero_le _, rfl, Lib.hid ⟨Ai, ni, ci, cur, by simp [emSs_nil], KBI.out, GRI.out, Keep.refl _ _⟩⟩
  case round =>
    rename World => wr
    obtain ⟨j, hj, rfl, HR⟩ := hrel
    by_cases hlt : j < l.length
    · have hk1 := kdSs_mem KDS.out (List.getElem_mem hlt)
      obtain ⟨xk, xs, xt, xb, xe, hgj⟩ : ∃ k s t b e, l[j] = .mk k s t b e := by
        cases l[j] with
        | mk k s t b e => exact ⟨k, s, t, b, e, rfl⟩
      rw [hgj, kdT] at hk1
      obtain ⟨hx1, hx8, -, -⟩ := hk1
      have HGJ := Lib.hid hgj
      clear hgj
      rcases (show xk = 1 ∨ xk = 2 ∨ xk = 3 ∨ xk = 4 ∨ xk = 5 ∨ xk = 6 ∨ xk = 7 ∨ xk = 8 from by omega) with rfl | rfl | rfl | rfl | rfl | rfl | rfl | rfl
      · refine es_k1 l IH.out A c w wP eb pg gA lA pA gc lc pc Ai ni ci cur base Z RW.out hl hc KDS.out htot hsz HPG.out HBP.out hPe HEB.out heb hbase HZ.out HLI j hlt wr HR.out (fun k s t b e h => by have h2 := HGJ.out; rw [h] at h2; injection h2) _ (fun a' w' hfr haj => ?_) _ EsFr.mk
        have HAJ := Lib.hid haj
        clear haj
        revert a'
        refine EsFr.all ?_
        intros
        go_wp2_with fail
        go_roundw
        case rel => exact ⟨j + 1, by omega, by go_num, HAJ⟩
        case measure => simp [intOf]; omega
      · refine es_k2 l IH.out A c w wP eb pg gA lA pA gc lc pc Ai ni ci cur base Z RW.out hl hc KDS.out htot hsz HPG.out HBP.out hPe HEB.out heb hbase HZ.out HLI j hlt wr HR.out (fun k s t b e h => by have h2 := HGJ.out; rw [h] at h2; injection h2) _ (fun a' w' hfr haj => ?_) _ EsFr.mk
        have HAJ := Lib.hid haj
        clear haj
        revert a'
        refine EsFr.all ?_
        intros
        go_wp2_with fail
        go_roundw
        case rel => exact ⟨j + 1, by omega, by go_num, HAJ⟩
        case measure => simp [intOf]; omega
      · refine es_k3 l IH.out A c w wP eb pg gA lA pA gc lc pc Ai ni ci cur base Z RW.out hl hc KDS.out htot hsz HPG.out HBP.out hPe HEB.out heb hbase HZ.out HLI j hlt wr HR.out (fun k s t b e h => by have h2 := HGJ.out; rw [h] at h2; injection h2) _ (fun a' w' hfr haj => ?_) _ EsFr.mk
        have HAJ := Lib.hid haj
        clear haj
        revert a'
        refine EsFr.all ?_
        intros
        go_wp2_with fail
        go_roundw
        case rel => exact ⟨j + 1, by omega, by go_num, HAJ⟩
        case measure => simp [intOf]; omega
      · refine es_k4 l IH.out A c w wP eb pg gA lA pA gc lc pc Ai ni ci cur base Z RW.out hl hc KDS.out htot hsz HPG.out HBP.out hPe HEB.out heb hbase HZ.out HLI j hlt wr HR.out (fun k s t b e h => by have h2 := HGJ.out; rw [h] at h2; injection h2) _ (fun a' w' hfr haj => ?_) _ EsFr.mk
        have HAJ := Lib.hid haj
        clear haj
        revert a'
        refine EsFr.all ?_
        intros
        go_wp2_with fail
        go_roundw
        case rel => exact ⟨j + 1, by omega, by go_num, HAJ⟩
        case measure => simp [intOf]; omega
      · refine es_k5 l IH.out A c w wP eb pg gA lA pA gc lc pc Ai ni ci cur base Z RW.out hl hc KDS.out htot hsz HPG.out HBP.out hPe HEB.out heb hbase HZ.out HLI j hlt wr HR.out (fun k s t b e h => by have h2 := HGJ.out; rw [h] at h2; injection h2) _ (fun a' w' hfr haj => ?_) _ EsFr.mk
        have HAJ := Lib.hid haj
        clear haj
        revert a'
        refine EsFr.all ?_
        intros
        go_wp2_with fail
        go_roundw
        case rel => exact ⟨j + 1, by omega, by go_num, HAJ⟩
        case measure => simp [intOf]; omega
      · refine es_k6 l IH.out A c w wP eb pg gA lA pA gc lc pc Ai ni ci cur base Z RW.out hl hc KDS.out htot hsz HPG.out HBP.out hPe HEB.out heb hbase HZ.out HLI j hlt wr HR.out (fun k s t b e h => by have h2 := HGJ.out; rw [h] at h2; injection h2) _ (fun a' w' hfr haj => ?_) _ EsFr.mk
        have HAJ := Lib.hid haj
        clear haj
        revert a'
        refine EsFr.all ?_
        intros
        go_wp2_with fail
        go_roundw
        case rel => exact ⟨j + 1, by omega, by go_num, HAJ⟩
        case measure => simp [intOf]; omega
      · refine es_k7 l IH.out A c w wP eb pg gA lA pA gc lc pc Ai ni ci cur base Z RW.out hl hc KDS.out htot hsz HPG.out HBP.out hPe HEB.out heb hbase HZ.out HLI j hlt wr HR.out (fun k s t b e h => by have h2 := HGJ.out; rw [h] at h2; injection h2) _ (fun a' w' hfr haj => ?_) _ EsFr.mk
        have HAJ := Lib.hid haj
        clear haj
        revert a'
        refine EsFr.all ?_
        intros
        go_wp2_with fail
        go_roundw
        case rel => exact ⟨j + 1, by omega, by go_num, HAJ⟩
        case measure => simp [intOf]; omega
      · refine es_k8 l IH.out A c w wP eb pg gA lA pA gc lc pc Ai ni ci cur base Z RW.out hl hc KDS.out htot hsz HPG.out HBP.out hPe HEB.out heb hbase HZ.out HLI j hlt wr HR.out (fun k s t b e h => by have h2 := HGJ.out; rw [h] at h2; injection h2) _ (fun a' w' hfr haj => ?_) _ EsFr.mk
        have HAJ := Lib.hid haj
        clear haj
        revert a'
        refine EsFr.all ?_
        intros
        go_wp2_with fail
        go_roundw
        case rel => exact ⟨j + 1, by omega, by go_num, HAJ⟩
        case measure => simp [intOf]; omega
    · have e : j = l.length := by omega
      subst e
      obtain ⟨A0, n0, c0, cu0, hcj, hkbx, hgr, hkp⟩ := HR.out
      have CJ := Lib.hid hcj
      have KPR := Lib.hid hkp
      have KBR := Lib.hid hkbx
      have GRR := Lib.hid hgr
      clear HR hcj hkp hkbx hgr
      go_wp2_with fail
      refine bodyPost_end (results_none rfl _ _ _) rfl ?_
      have hcj := CJ.out
      rw [List.take_length] at hcj
      exact ⟨rfl, KPR.out, A0, n0, c0, cu0, hcj, KBR.out, GRR.out⟩
theorem spec_l08Stmts (l : List St) : EsC l := by
  have key : ∀ n, ∀ l : List St, snodess l ≤ n → EsC l := by
    intro n
    induction n with
    | zero =>
      intro l h
      refine es_of l fun g hg k s t b e hge => ?_
      have := snodess_le hg
      subst hge
      rw [snodes] at this
      omega
    | succ n ih =>
      intro l h
      refine es_of l fun g hg k s t b e hge => ?_
      have := snodess_le hg
      subst hge
      rw [snodes] at this
      exact ⟨ih b (by omega), ih e (by omega)⟩
  exact key _ l (Nat.le_refl _)
end Go.Proofs.Ytadcebdhgocmhaa
