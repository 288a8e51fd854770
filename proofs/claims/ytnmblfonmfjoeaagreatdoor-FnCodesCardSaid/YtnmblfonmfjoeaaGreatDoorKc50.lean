/- Lemmas for the row. -/
import Derived.Test.YtnmblfonmfjoeaaGreatDoorKc48
import Derived.Test.YtnmblfonmfjoeaaGreatDoorKc49
import Derived.Test.YtnmblfonmfjoeaaGreatDoorKc43
namespace Go.Proofs.YtnmblfonmfjoeaaGreatDoor
open Go.RowKit
set_option maxHeartbeats 6400000
set_option maxRecDepth 100000
set_option linter.unusedVariables false
theorem es_k8 {x2 x3 : Value} (l : List St) (ih : ∀ g ∈ l, ∀ k s t b e, g = .mk k s t b e → EsC b ∧ EsC e) (A : Option Addr) (c : Nat) (w wP : World) (eb : Nat) (pg : Pg) (gA lA pA : Option Addr) (gc lc pc : Nat) (Ai : Option Addr) (ni ci : Nat) (cur : List Ic) (base : Nat) (Z : Nat → Prop)
  (row : StRow (Fz base Z eb) w A l) (hl : l.length ≤ c) (hc : c ≤ maxLen) (hkd : kdSs l) (htot : totGs l ≤ 1048577) (hsz : cur.length + 2 * snodess l ≤ 100000)
  (hpg : PgIs wP ⟨gA, gc, lA, lc, pA, pc⟩ pg) (hbp : Below wP.heap.size wP w) (hPe : wP.heap.size ≤ eb) (henv : pg.globals.length ≤ 1000 ∧ pg.locks.length ≤ 1000 ∧ (pnames pg.procs).length ≤ 1000)
  (heb : eb < base) (hbase : base ≤ w.heap.size) (hZ : ∀ b, Z b → b < w.heap.size) (HLI : Hid (cur.length = ni))
  (j : Nat) (hlt : j < l.length) (wr : World) (hrel : EsJ w wr eb pg gA lA pA gc lc pc ni cur base Z l j)
  (hkn : ∀ k s t b e, l[j] = .mk k s t b e → k = 8) (Q : Exit → Act → World → Prop) (hQ : ∀ a' w', EsFr (.pointer (some ⟨eb, 0, none⟩)) (.slice A l.length c) x2 x3 (.int .i64 ((j : Int) + 1)) a' → EsJ w w' eb pg gA lA pA gc lc pc ni cur base Z l (j + 1) → Q .normal a' w') : ∀ a, EsFr (.pointer (some ⟨eb, 0, none⟩)) (.slice A l.length c) x2 x3 (.int .i64 (j : Int)) a → Code.wp Tryz.prog esBody Q a wr := by
 have IH := qh ih
 have RW := qh row
 have KDS := qh hkd
 have HPG := qh hpg
 have HBP := qh hbp
 have HEB := qh henv
 have HZ := qh hZ
 have HQ := qh hQ
 unfold maxLen at hc
 have hwPw := hbp.size
 clear ih row hkd hpg hbp henv hZ hQ
 obtain ⟨A0, n0, c0, cu0, hcj, hkbx, hgr, hkp⟩ := hrel
 have CJ := qh hcj
 have KPR := qh hkp
 have KBR := qh hkbx
 have GRR := qh hgr
 have HL0 : Hid (cu0.length = n0) := qh (by obtain ⟨_, _, e, _, _⟩ := hgr.slice; injection e with _ e; exact e.symm)
 have hwsz := hkp.size
 have hroom : n0 + 2 * snodes l[j] ≤ 100000 := by
  have h1 := emSs_here (envP pg) ni l j hlt
  have h2 := HL0.out
  rw [hcj, List.length_append] at h2
  omega
 obtain ⟨b, off, x, rfl, hFb, ⟨d0, d1, d2, d3, d4, d5, d6, d7⟩, hst⟩ := rd_stmt (RW.out.keep (keep_cell hkp) (fun _ _ h => h)) hlt
 have hk1 := kdSs_mem KDS.out (List.getElem_mem hlt)
 have htg := totGs_ltE (List.getElem_mem hlt)
 have hkn' := hkn
 have hih := IH.out _ (List.getElem_mem hlt)
 generalize hG : l[j] = gj at hroom hst hk1 htg hih hkn'
 obtain ⟨xk, xs, tk, tn, ts, tA, tm, tc, bA, bm, bc, oA, om, oc⟩ := x
 obtain ⟨t, body, els, rfl, hki, hxs, htm, hbm, hb1, hb2, rowb, hem, he1, he2, rowe⟩ := hst.inv
 simp only at d0 d1 d2 d3 d4 d5 d6 d7 hki hxs htm hbm hb1 hb2 rowb hem he1 he2 rowe hG hroom hk1 htg hih
 clear hkn
 subst hbm hem
 have HG := qh hG
 rw [kdT] at hk1
 rw [totG] at htg
 rw [snodes] at hroom
 obtain ⟨hx1, hx8, hkdb, hkde⟩ := hk1
 obtain ⟨ihb, ihe⟩ := hih _ _ _ _ _ rfl
 have IHB := qh ihb
 have IHE := qh ihe
 have KDB := qh hkdb
 have KDE := qh hkde
 have HTB : Hid (totGs body ≤ 1048576) := qh (by omega)
 have HTE : Hid (totGs els ≤ 1048576) := qh (by omega)
 have HTT : Hid (totT t ≤ 1048576) := qh (by omega)
 have TMR := qh htm
 have RBR := qh rowb
 have RER := qh rowe
 clear hst hih hG hki hxs htm rowb rowe hkdb hkde ihb ihe htg hcj
 have hlb := cell_lt d0
 obtain ⟨sb, hsb⟩ : ∃ sb, wr.heap.size = sb := ⟨_, rfl⟩
 obtain ⟨Zs, hZsZ, hZsb, hZsi⟩ : ∃ Zs : Nat → Prop, (∀ b, Z b → Zs b) ∧ Zs sb ∧ ∀ b, Zs b → Z b ∨ b = sb := ⟨fun b => Z b ∨ b = sb, fun b h => .inl h, .inr rfl, fun b h => h⟩
 have hnsk : ¬ sb = eb := by omega
 have hnks : ¬ eb = sb := by omega
 obtain ⟨u0, hu0⟩ : ∃ u0, wr.alloc (.cells #[.int .i64 xk, .string xs, .int .i64 tk, .int .i64 tn, .string ts, .slice tA tm tc, .slice bA body.length bc, .slice oA els.length oc] 71) = u0 := ⟨_, rfl⟩
 have B0 : Hid (Below wr.heap.size wr u0) := qh (by rw [← hu0]; exact Below.alloc (Below.refl _ _) (Nat.le_refl _) _)
 have SB0 : Hid (u0.heap[sb]? = some (.cells #[.int .i64 xk, .string xs, .int .i64 tk, .int .i64 tn, .string ts, .slice tA tm tc, .slice bA body.length bc, .slice oA els.length oc] 71 (0, 0))) := qh (by rw [← hsb, ← hu0]; exact heap_alloc_new _ _)
 have KB0 := qh ((B0.out.block eb (lt_of_block KBR.out)).trans KBR.out)
 have GR0 : Hid (GrwI base Zs u0 (.slice A0 n0 c0) cu0) := qh ((GRR.out.zsub (fun b _ h2 h => (hZsi b h).elim id (fun e => by omega))).below IcP.keepP B0.out)
 have KP0 : Hid (Keep (Fz base Zs eb) u0 u0) := qh (Keep.refl _ _)
 have HZS0 : Hid (∀ b, Zs b → b < u0.heap.size) := qh (fun b h => by
  have h1 := lt_of_block SB0.out
  rcases hZsi b h with h | h
  ·have := HZ.out b h; have := B0.out.size; omega
  ·omega)
 have hz0 : wr.heap.size ≤ u0.heap.size := B0.out.size
 have hfz : ∀ b, b < wr.heap.size → Fz base Z eb b → Fz base Zs eb b := fun b _ h => ⟨h.1, h.2.imp id (hZsZ b)⟩
 have KW : Hid (Keep (Fz base Z eb) w u0) := qh (KPR.out.trans (Keep.of_below (S := Fz base Z eb) B0.out) (fun _ _ h => h))
 have BP0 : Hid (Below wP.heap.size wP u0) := qh (below_kp HBP.out KW.out (by omega) (fun b hb => ⟨by omega, .inl (by omega)⟩))
 have hPz : wP.heap.size ≤ u0.heap.size := by omega
 have hPS : ∀ b, b < wP.heap.size → Fz base Zs eb b := fun b hb => ⟨by omega, .inl (by omega)⟩
 have TM0 := qh (TMR.out.keep (keep_cell (Keep.of_below (S := Fz base Z eb) B0.out)) (F' := Fz base Zs eb) (fun b hb h => hfz b hb h))
 have RB0 := qh (RBR.out.keep (keep_cell (Keep.of_below (S := Fz base Z eb) B0.out)) (F' := Fz base Zs eb) (fun b hb h => hfz b hb h))
 have RE0 := qh (RER.out.keep (keep_cell (Keep.of_below (S := Fz base Z eb) B0.out)) (F' := Fz base Zs eb) (fun b hb h => hfz b hb h))
 clear KBR GRR TMR RBR RER hfz
 obtain rfl : xk = 8 := hkn' _ _ _ _ _ rfl
 clear hkn'
 refine EsFr.all ?_
 intros
 conv => arg 2; whnf
 obtain ⟨k00, k01, k02, k03, f03⟩ := box4 KB0.out
 obtain ⟨s00, s01, s02, s03, s04, s05, s06, s07⟩ := cells8 SB0.out
 have hk0 := lt_of_block KB0.out
 have hs0 := lt_of_block SB0.out
 go_wp2_with fail
 have hcl := spec_l08Put u0 u0 eb gA lA pA A0 none pg.globals.length gc pg.locks.length lc pg.procs.length pc n0 c0 0 0 8 0 0 0 0 ⟨#[]⟩ cu0 ⟨8, 0, zeroTm, 0⟩ base Zs NoB (Below.refl _ _) KB0.out GR0.out heb (by omega) HZS0.out (icP_zero _ 8 0 0 (i64_of (by omega) (by omega)) (i64_of (by omega) (by omega)) (i64_of (by omega) (by omega))) (fun b hb => hb.elim) (by omega)
 refine hcl.mono ?_
 clear hcl
 rintro e u1 ⟨rfl, A1, n1, c1, hkb1, hn1, hgr1, kp1⟩
 have KB1 := qh hkb1
 have HN1 := qh hn1
 have GRa1 := qh hgr1
 have KPa1 := qh kp1
 have SB1 := qh ((kp1.block sb hs0 ⟨hnsk, .inr hZsb⟩).trans SB0.out)
 clear hkb1 hn1 hgr1 kp1
 clear k00 k01 k02 k03 f03 s00 s01 s02 s03 s04 s05 s06 s07 hk0 hs0
 obtain ⟨cu1, hcu1⟩ : ∃ cu, cu0 ++ [⟨8, 0, zeroTm, 0⟩] = cu := ⟨_, rfl⟩
 have HC1 := qh hcu1
 have GR1 : Hid (GrwI base Zs u1 (.slice A1 n1 c1) cu1) := qh (by rw [← hcu1]; exact GRa1.out)
 have HL1 : Hid (cu1.length = n1) := qh (by rw [← hcu1, HN1.out, ← HL0.out]; simp)
 have KP1 := qh (KP0.out.trans KPa1.out (fun _ _ h => h))
 have hu1z : u0.heap.size ≤ u1.heap.size := KP1.out.size
 have HZS1 : Hid (∀ b, Zs b → b < u1.heap.size) := qh (fun b hb => Nat.lt_of_lt_of_le (HZS0.out b hb) hu1z)
 have hub1 : n1 ≤ n0 + 1 := Nat.le_of_eq HN1.out
 have hlw1 : n0 + 1 ≤ n1 := Nat.le_of_eq HN1.out.symm
 clear hcu1 GRa1 KPa1
 go_wp2_with fail
 have hfin : cu1 = cu0 ++ emT (envP pg) n0 (.mk 8 xs t body els) := by
  rw [← HC1.out, emT_one _ _ _ _ _ _ _ (by decide) (by decide)]; rfl
 refine HQ.out _ _ EsFr.mk ⟨A1, n1, c1, cu1, ?_, KB1.out, GR1.out.zsub (fun b _ _ h => hZsZ b h), (KPR.out.trans (Keep.of_below (S := Fz base Z eb) B0.out) (fun _ _ h => h)).trans (KP1.out.mono (fun b _ h => ⟨h.1, h.2.imp id (hZsZ b)⟩)) (fun _ _ h => h)⟩
 rw [List.take_succ_eq_append_getElem hlt, HG.out, emSs_snoc, ← List.append_assoc, ← CJ.out, hfin]
 have h1 : ni + (emSs (envP pg) ni (l.take j)).length = n0 := by have h2 := HL0.out; rw [CJ.out, List.length_append, HLI.out] at h2; exact h2
 rw [h1]
theorem es_of (l : List St) (ih : ∀ g ∈ l, ∀ k s t b e, g = .mk k s t b e → EsC b ∧ EsC e) : EsC l := by
 intro A c w wP eb pg gA lA pA gc lc pc Ai ni ci cur base Z row hl hc hkd htot hsz hpg hbp hPe henv heb hbase hZ hbox hgrw
 have IH := qh ih
 have RW := qh row
 have KDS := qh hkd
 have HPG := qh hpg
 have HBP := qh hbp
 have HEB := qh henv
 have HZ := qh hZ
 have KBI := qh hbox
 have GRI := qh hgrw
 have HLI : Hid (cur.length = ni) := qh (by obtain ⟨_, _, e, _, _⟩ := hgrw.slice; injection e with _ e; exact e.symm)
 unfold maxLen at hc
 clear ih row hkd hpg hbp henv hZ hbox hgrw
 go_enter Tryz.func21, Tryz.ntmps21
 go_wp2_with fail
 go_loopw [4] (fun i wr => ∃ j : Nat, j ≤ l.length ∧ i = .int .i64 j ∧ Hid (EsJ w wr eb pg gA lA pA gc lc pc ni cur base Z l j)) (fun i _ => l.length - (intOf i).toNat)
 case atStart => exact ⟨0, Nat.zero_le _, rfl, qh ⟨Ai, ni, ci, cur, by simp [emSs_nil], KBI.out, GRI.out, Keep.refl _ _⟩⟩
 case round =>
  rename World => wr
  obtain ⟨j, hj, rfl, HR⟩ := hrel
  by_cases hlt : j < l.length
  ·have hk1 := kdSs_mem KDS.out (List.getElem_mem hlt)
   obtain ⟨xk, xs, xt, xb, xe, hgj⟩ : ∃ k s t b e, l[j] = .mk k s t b e := by
    cases l[j] with
    | mk k s t b e => exact ⟨k, s, t, b, e, rfl⟩
   rw [hgj, kdT] at hk1
   obtain ⟨hx1, hx8, -, -⟩ := hk1
   have HGJ := qh hgj
   clear hgj
   rcases (show xk = 1 ∨ xk = 2 ∨ xk = 3 ∨ xk = 4 ∨ xk = 5 ∨ xk = 6 ∨ xk = 7 ∨ xk = 8 from by omega) with rfl | rfl | rfl | rfl | rfl | rfl | rfl | rfl
   ·refine es_k1 l IH.out A c w wP eb pg gA lA pA gc lc pc Ai ni ci cur base Z RW.out hl hc KDS.out htot hsz HPG.out HBP.out hPe HEB.out heb hbase HZ.out HLI j hlt wr HR.out (fun k s t b e h => by have h2 := HGJ.out; rw [h] at h2; injection h2) _ (fun a' w' hfr haj => ?_) _ EsFr.mk
    have HAJ := qh haj
    clear haj
    revert a'
    refine EsFr.all ?_
    intros
    go_wp2_with fail
    go_roundw
    case rel => exact ⟨j + 1, by omega, by go_num, HAJ⟩
    case measure => simp [intOf]; omega
   ·refine es_k2 l IH.out A c w wP eb pg gA lA pA gc lc pc Ai ni ci cur base Z RW.out hl hc KDS.out htot hsz HPG.out HBP.out hPe HEB.out heb hbase HZ.out HLI j hlt wr HR.out (fun k s t b e h => by have h2 := HGJ.out; rw [h] at h2; injection h2) _ (fun a' w' hfr haj => ?_) _ EsFr.mk
    have HAJ := qh haj
    clear haj
    revert a'
    refine EsFr.all ?_
    intros
    go_wp2_with fail
    go_roundw
    case rel => exact ⟨j + 1, by omega, by go_num, HAJ⟩
    case measure => simp [intOf]; omega
   ·refine es_k3 l IH.out A c w wP eb pg gA lA pA gc lc pc Ai ni ci cur base Z RW.out hl hc KDS.out htot hsz HPG.out HBP.out hPe HEB.out heb hbase HZ.out HLI j hlt wr HR.out (fun k s t b e h => by have h2 := HGJ.out; rw [h] at h2; injection h2) _ (fun a' w' hfr haj => ?_) _ EsFr.mk
    have HAJ := qh haj
    clear haj
    revert a'
    refine EsFr.all ?_
    intros
    go_wp2_with fail
    go_roundw
    case rel => exact ⟨j + 1, by omega, by go_num, HAJ⟩
    case measure => simp [intOf]; omega
   ·refine es_k47 l IH.out A c w wP eb pg gA lA pA gc lc pc Ai ni ci cur base Z RW.out hl hc KDS.out htot hsz HPG.out HBP.out hPe HEB.out heb hbase HZ.out HLI j hlt wr HR.out (fun k s t b e h => Or.inl (by have h2 := HGJ.out; rw [h] at h2; injection h2)) _ (fun a' w' hfr haj => ?_) _ EsFr.mk
    have HAJ := qh haj
    clear haj
    revert a'
    refine EsFr.all ?_
    intros
    go_wp2_with fail
    go_roundw
    case rel => exact ⟨j + 1, by omega, by go_num, HAJ⟩
    case measure => simp [intOf]; omega
   ·refine es_k47 l IH.out A c w wP eb pg gA lA pA gc lc pc Ai ni ci cur base Z RW.out hl hc KDS.out htot hsz HPG.out HBP.out hPe HEB.out heb hbase HZ.out HLI j hlt wr HR.out (fun k s t b e h => Or.inr (Or.inl (by have h2 := HGJ.out; rw [h] at h2; injection h2))) _ (fun a' w' hfr haj => ?_) _ EsFr.mk
    have HAJ := qh haj
    clear haj
    revert a'
    refine EsFr.all ?_
    intros
    go_wp2_with fail
    go_roundw
    case rel => exact ⟨j + 1, by omega, by go_num, HAJ⟩
    case measure => simp [intOf]; omega
   ·refine es_k47 l IH.out A c w wP eb pg gA lA pA gc lc pc Ai ni ci cur base Z RW.out hl hc KDS.out htot hsz HPG.out HBP.out hPe HEB.out heb hbase HZ.out HLI j hlt wr HR.out (fun k s t b e h => Or.inr (Or.inr (Or.inl (by have h2 := HGJ.out; rw [h] at h2; injection h2)))) _ (fun a' w' hfr haj => ?_) _ EsFr.mk
    have HAJ := qh haj
    clear haj
    revert a'
    refine EsFr.all ?_
    intros
    go_wp2_with fail
    go_roundw
    case rel => exact ⟨j + 1, by omega, by go_num, HAJ⟩
    case measure => simp [intOf]; omega
   ·refine es_k47 l IH.out A c w wP eb pg gA lA pA gc lc pc Ai ni ci cur base Z RW.out hl hc KDS.out htot hsz HPG.out HBP.out hPe HEB.out heb hbase HZ.out HLI j hlt wr HR.out (fun k s t b e h => Or.inr (Or.inr (Or.inr (by have h2 := HGJ.out; rw [h] at h2; injection h2)))) _ (fun a' w' hfr haj => ?_) _ EsFr.mk
    have HAJ := qh haj
    clear haj
    revert a'
    refine EsFr.all ?_
    intros
    go_wp2_with fail
    go_roundw
    case rel => exact ⟨j + 1, by omega, by go_num, HAJ⟩
    case measure => simp [intOf]; omega
   ·refine es_k8 l IH.out A c w wP eb pg gA lA pA gc lc pc Ai ni ci cur base Z RW.out hl hc KDS.out htot hsz HPG.out HBP.out hPe HEB.out heb hbase HZ.out HLI j hlt wr HR.out (fun k s t b e h => by have h2 := HGJ.out; rw [h] at h2; injection h2) _ (fun a' w' hfr haj => ?_) _ EsFr.mk
    have HAJ := qh haj
    clear haj
    revert a'
    refine EsFr.all ?_
    intros
    go_wp2_with fail
    go_roundw
    case rel => exact ⟨j + 1, by omega, by go_num, HAJ⟩
    case measure => simp [intOf]; omega
  ·have e : j = l.length := by omega
   subst e
   obtain ⟨A0, n0, c0, cu0, hcj, hkbx, hgr, hkp⟩ := HR.out
   have CJ := qh hcj
   have KPR := qh hkp
   have KBR := qh hkbx
   have GRR := qh hgr
   clear HR hcj hkp hkbx hgr
   go_wp2_with fail
   refine bodyPost_end (results_none rfl _ _ _) rfl ?_
   have hcj := CJ.out
   rw [List.take_length] at hcj
   exact ⟨rfl, KPR.out, A0, n0, c0, cu0, hcj, KBR.out, GRR.out⟩
theorem spec_l08Stmts (l : List St) : EsC l := by
 have key : ∀ n, ∀ l : List St, snodess l ≤ n → EsC l := by
  intro n
  induction n with
  | zero =>
   intro l h
   refine es_of l fun g hg k s t b e hge => ?_
   have := snodess_le hg
   subst hge
   rw [snodes] at this
   omega
  | succ n ih =>
   intro l h
   refine es_of l fun g hg k s t b e hge => ?_
   have := snodess_le hg
   subst hge
   rw [snodes] at this
   exact ⟨ih b (by omega), ih e (by omega)⟩
 exact key _ l (Nat.le_refl _)
theorem own_empty {W : World} {g base : Nat} {T : TypeId} (h : W.heap[g]? = some (.cells #[] T (0, 0))) (hb : base ≤ g) : OwnX base W T 1 (.slice (some ⟨g, 0, none⟩) 0 0) 0 [] :=
 ⟨⟨rfl, .inr ⟨g, 0, #[], rfl, hb, h, Nat.le_refl _, Nat.zero_le _, rfl, rfl⟩⟩, by have := lt_of_block h; omega⟩
def Cln (W w' : World) (g : Nat) (ss : List ByteArray) (v' : Value) : Prop := ∃ A c nb, v' = .slice A ss.length c ∧ (ss.length ≤ c ∧ c ≤ maxLen) ∧ Hid (StrRowO w' (fun b => b = nb) A ss) ∧ (nb = g ∨ W.heap.size ≤ nb) ∧ nb < w'.heap.size ∧ Keep (fun b => b ≠ g) W w'
theorem cln_of {W w' : World} {g : Nat} {ss : List ByteArray} {v' : Value} (hg : W.heap[g]? = some (.cells #[] 9 (0, 0))) (own : Own (cutX g W) w' 9 1 v' (0 + ss.length) ([] ++ ss.map Value.string)) (gr : Grew (.slice (some ⟨g, 0, none⟩) 0 0) v' W w') (hs : ∀ s ∈ ss, s.size ≤ maxLen) : Cln W w' g ss v' := by
 rw [Nat.zero_add, List.nil_append] at own
 have hgl := lt_of_block hg
 obtain ⟨A, c, rfl, hc⟩ := own.slice
 have hk : Keep (fun b => b ≠ g) W w' := gr.keep.mono fun b _ h e => h (by injection e with e; exact e.symm)
 have hc2 := own_cap own.1
 rcases Nat.eq_zero_or_pos ss.length with h0 | h0
 ·have : ss = [] := List.length_eq_zero_iff.1 h0
  subst this
  exact ⟨A, c, g, rfl, ⟨hc, hc2⟩, qh (nil_rowO _ _ _), .inl rfl, Nat.lt_of_lt_of_le hgl gr.keep.size, hk⟩
 ·obtain ⟨cs, G, row, hx⟩ := OwnStrs.rowO (w0 := cutX g W) own hs
  obtain ⟨b, off, cur, e, rfl, hF, hb, hn⟩ := row.2.1 h0
  refine ⟨some ⟨b, off, none⟩, c, b, rfl, ⟨hc, hc2⟩, qh ⟨cs, fun _ _ => False, ⟨row.1, fun _ => ⟨b, off, cur, e, rfl, rfl, hb, fun _ _ h => h⟩, fun _ _ _ h => h.elim, fun _ _ _ _ _ _ h => h.elim⟩, fun i hi => ⟨(hx i hi).1, (hx i hi).2⟩⟩, ?_, lt_of_block hb, hk⟩
  rcases gr.lies with h | ⟨q, h, hq⟩
  ·left; injection h
  ·right; injection h with h; simp only at h; omega
structure CoN2 (w1 wx : World) (kb base : Nat) (gA lA : Option Addr) (gc lc : Nat) (p : Pg) : Prop where
 hg : p.globals.length ≤ gc ∧ gc ≤ maxLen
 hl : p.locks.length ≤ lc ∧ lc ≤ maxLen
 rows : ∃ H : Nat → Nat → Prop, (∀ i b, H i b → w1.heap.size ≤ b ∧ b < base ∧ b ≠ kb) ∧ (∀ i j b, i ≠ j → H i b → H j b → False) ∧ StrRowO wx (H 0) gA p.globals ∧ StrRowO wx (H 1) lA p.locks
theorem CoN2.keep {w1 wx wy : World} {kb base base' : Nat} {gA lA : Option Addr} {gc lc : Nat} {p : Pg} (h : CoN2 w1 wx kb base gA lA gc lc p) (hk : ∀ b, w1.heap.size ≤ b → b < base → b ≠ kb → wy.heap[b]? = wx.heap[b]?) (hb : base ≤ base') : CoN2 w1 wy kb base' gA lA gc lc p := by
 obtain ⟨a, b, H, h1, h2, r0, r1⟩ := h
 have hh : ∀ i b, H i b → wy.heap[b]? = wx.heap[b]? := fun i b hb => hk b (h1 i b hb).1 (h1 i b hb).2.1 (h1 i b hb).2.2
 exact ⟨a, b, H, fun i b hb' => ⟨(h1 i b hb').1, Nat.lt_of_lt_of_le (h1 i b hb').2.1 hb, (h1 i b hb').2.2⟩, h2, r0.keep fun b hb => hh 0 b hb, r1.keep fun b hb => hh 1 b hb⟩
theorem con2_of {w1 F W : World} {kb nG nL : Nat} {wG wL : World} {gA lA : Option Addr} {gc lc : Nat} {p : Pg} (hg : p.globals.length ≤ gc ∧ gc ≤ maxLen) (hl : p.locks.length ≤ lc ∧ lc ≤ maxLen)
  (rg : StrRowO wG (fun b => b = nG) gA p.globals) (rl : StrRowO wL (fun b => b = nL) lA p.locks) (bg : F.heap[nG]? = wG.heap[nG]?) (bl : F.heap[nL]? = wL.heap[nL]?) (hW : ∀ b, b ≠ kb → b < F.heap.size → W.heap[b]? = F.heap[b]?) (hz : F.heap.size ≤ W.heap.size)
  (lg : w1.heap.size ≤ nG) (ll : w1.heap.size ≤ nL) (sg : nG < F.heap.size) (sl : nL < F.heap.size) (kg : kb ≠ nG) (kl : kb ≠ nL) (d : nG ≠ nL) : CoN2 w1 W kb W.heap.size gA lA gc lc p :=
 ⟨hg, hl, fun i b => (i = 0 ∧ b = nG) ∨ (i = 1 ∧ b = nL), fun i b h => by omega, fun i j b hne h h' => by omega,
  RowOf.subR (rg.keep fun b hb => by subst hb; exact (hW _ (by omega) sg).trans bg) fun b hb => .inl ⟨rfl, hb⟩,
  RowOf.subR (rl.keep fun b hb => by subst hb; exact (hW _ (by omega) sl).trans bl) fun b hb => .inr ⟨rfl, hb⟩⟩
theorem con2_done {w1 F W : World} {kb nG nL : Nat} {wG wL : World} {gA lA : Option Addr} {gc lc : Nat} {p : Pg} {T : TypeId} {a b c d e x y z u v : Value} (hW : (((((F.setCell ⟨kb, 0, none⟩ x).setCell ⟨kb, 1, none⟩ y).setCell ⟨kb, 2, none⟩ z).setCell ⟨kb, 3, none⟩ u).setCell ⟨kb, 4, none⟩ v) = W)
  (hg : p.globals.length ≤ gc ∧ gc ≤ maxLen) (hl : p.locks.length ≤ lc ∧ lc ≤ maxLen)
  (rg : StrRowO wG (fun b => b = nG) gA p.globals) (rl : StrRowO wL (fun b => b = nL) lA p.locks) (bg : F.heap[nG]? = wG.heap[nG]?) (bl : F.heap[nL]? = wL.heap[nL]?) (hb : F.heap[kb]? = some (.cells #[a, b, c, d, e] T (0, 0))) (BF : Below w1.heap.size w1 F) (hk : w1.heap.size ≤ kb)
  (lg : w1.heap.size ≤ nG) (ll : w1.heap.size ≤ nL) (sg : nG < F.heap.size) (sl : nL < F.heap.size) (kg : kb ≠ nG) (kl : kb ≠ nL) (dd : nG ≠ nL) :
  CoN2 w1 W kb W.heap.size gA lA gc lc p ∧ w1.heap.size ≤ kb ∧ kb < W.heap.size ∧ Below w1.heap.size w1 W ∧ W.heap[kb]? = some (.cells #[x, y, z, u, v] T (0, 0)) := by
 subst hW
 have hz := lt_of_block hb
 exact ⟨con2_of hg hl rg rl bg bl (fun b hb _ => five_other x y z u v b hb) (by simp) lg ll sg sl kg kl dd, hk, by simpa using hz, five_below BF hk x y z u v, s5_all hb x y z u v⟩
theorem below_kpS {S : Nat → Prop} {w0 w w' : World} (h : Below w0.heap.size w0 w) (k : Keep S w w') (hS : ∀ b, b < w0.heap.size → S b) : Below w0.heap.size w0 w' := below_kp h k h.size hS
theorem step_clone {w : World} {g : Nat} {o : Oper} {a : Act} {Q : Exit → Act → World → Prop} {ops : Array Oper} {K : Act → World → Prop} {E : Prop} (hgd : o.guard = none) (sl x : Operand) (ho : o.op = .call { callee := .builtin .append, args := #[sl, x], argTypes := #[24, 24] }) (hs : a.eval sl = .slice (some ⟨g, 0, none⟩) 0 0) (A : Option Addr) (ss : List ByteArray) (c : Nat) (hx : a.eval x = .slice A ss.length c)
  (hE : w.heap[g]? = some (.cells #[] 9 (0, 0))) (rd : Rd w 1 A ss.length (ss.map Value.string)) (hsz : ∀ s ∈ ss, s.size ≤ maxLen) (hn : ss.length ≤ 100000) (h : ∀ v' w', Cln w w' g ss v' → K (a.put o.dst v') w') : if Region.wanted o (yielded ops a.tmps) = true then Oper.wp Tryz.prog o a w K Q else E :=
 step_appG _ strT hgd sl x ho hs (own_empty hE (Nat.le_refl _)).own A ss.length c (ss.map Value.string) hx rd (by intro u hu; obtain ⟨s, _, rfl⟩ := List.mem_map.1 hu; rfl) (by omega) (by decide) fun v' w' own' gr' => h v' w' (cln_of hE own' gr' hsz)
theorem two_app {base kb o n n' m : Nat} {T T' : TypeId} {v v1 v' iv : Value} {xs xs' ys : List Value} {Z : Nat → Prop} {u0 w7 : World} {cur : List Ic} (ow : OwnX base u0 T 1 v n xs) (ow' : OwnX base u0 T' 1 v' n' xs') (hd : ∀ b, v.ownBlock = some b → v'.ownBlock ≠ some b) (gi : GrwI base Z u0 iv cur) (h1 : ∀ b, v.ownBlock = some b → Z b) (h2 : ∀ b, v'.ownBlock = some b → Z b) (hkb : kb < base)
  (own7 : Own (cutX base u0) w7 T 1 v1 m ys) (gr : Grew v v1 u0 w7) (u : Value) :
  OwnX base (w7.setCell ⟨kb, o, none⟩ u) T 1 v1 m ys ∧ OwnX base (w7.setCell ⟨kb, o, none⟩ u) T' 1 v' n' xs' ∧ (∀ b, v1.ownBlock = some b → v'.ownBlock ≠ some b) ∧
  GrwI base (fun b => v1.ownBlock = some b ∨ v'.ownBlock = some b) (w7.setCell ⟨kb, o, none⟩ u) iv cur ∧ Keep (fun b => b < base ∧ b ≠ kb) u0 (w7.setCell ⟨kb, o, none⟩ u) := by
 have ow7 := OwnX.of (w := u0) ow.2 own7
 have hne : ∀ b, b < base → v.ownBlock ≠ some b := fun b hb e => by have := (ow.lt b e).1; omega
 have hne' : ∀ b, b < base → v'.ownBlock ≠ some b := fun b hb e => by have := (ow'.lt b e).1; omega
 have hne7 : ∀ b, b < base → v1.ownBlock ≠ some b := fun b hb e => by have := (ow7.lt b e).1; omega
 have hd7 : ∀ b, v1.ownBlock = some b → v'.ownBlock ≠ some b := fun b h e => by
  rcases gr.lies with h1 | ⟨g, h1, h2⟩
  ·exact hd b (h1 ▸ h) e
  ·rw [h1] at h; injection h with h; have := (ow'.lt b e).2; omega
 refine ⟨ow7.setO (hne7 kb hkb) _, (ow'.keep gr.keep (fun b hb e => hd b e hb)).setO (hne' kb hkb) _, hd7, ?_, ?_⟩
 ·have g1 : GrwI base (fun b => Z b ∨ v1.ownBlock = some b) u0 iv cur := gi.zsub fun b _ hb h => h.elim id fun h => by
   rcases gr.lies with h3 | ⟨g, h3, h4⟩
   ·exact h1 b (h3 ▸ h)
   ·rw [h3] at h; injection h with h; omega
  have g2 := g1.keep IcP.keepP gr.keep (fun b _ _ h => fun e => h (.inl (h1 b e)))
  have g3 := g2.keep IcP.keepP (S := fun b => b ≠ kb) (Keep.setCell (Keep.refl _ _) (p := ⟨kb, o, none⟩) (fun h => h rfl) u) (fun b h1 _ _ => by show b ≠ kb; omega)
  exact g3.zsub fun b _ _ h => h.elim .inr fun h => .inl (h2 b h)
 ·exact (gr.keep.mono (fun b _ h => hne b h.1)).setCell (p := ⟨kb, o, none⟩) (fun h => h.2 rfl) _
def CoT (wx wr : World) (kb eb base : Nat) (gA lA gA0 lA0 pA0 : Option Addr) (gc lc gc0 lc0 pc0 : Nat) (p : Pg) (names : List ByteArray) (ents : List Int) (cur : List Ic) : Prop :=
 ∃ nA nc eA ec iA n ic, wr.heap[kb]? = some (.cells #[.slice gA p.globals.length gc, .slice lA p.locks.length lc, .slice nA names.length nc, .slice eA ents.length ec, .slice none 0 0] 32 (0, 0)) ∧
  wr.heap[eb]? = some (.cells #[.slice gA0 p.globals.length gc0, .slice lA0 p.locks.length lc0, .slice pA0 p.procs.length pc0, .slice iA n ic] 56 (0, 0)) ∧
  OwnX base wr 9 1 (.slice nA names.length nc) names.length (names.map Value.string) ∧ OwnX base wr 3 1 (.slice eA ents.length ec) ents.length (ents.map (Value.int .i64)) ∧
  (∀ b, (Value.slice nA names.length nc).ownBlock = some b → (Value.slice eA ents.length ec).ownBlock ≠ some b) ∧
  GrwI base (fun b => (Value.slice nA names.length nc).ownBlock = some b ∨ (Value.slice eA ents.length ec).ownBlock = some b) wr (.slice iA n ic) cur ∧ Keep (fun b => b < base ∧ b ≠ kb ∧ b ≠ eb) wx wr
theorem coT_zero {wx : World} {kb eb base : Nat} {gA lA gA0 lA0 pA0 : Option Addr} {gc lc gc0 lc0 pc0 : Nat} {p : Pg} (hkb : wx.heap[kb]? = some (.cells #[.slice gA p.globals.length gc, .slice lA p.locks.length lc, .slice none 0 0, .slice none 0 0, .slice none 0 0] 32 (0, 0))) (heb : wx.heap[eb]? = some (.cells #[.slice gA0 p.globals.length gc0, .slice lA0 p.locks.length lc0, .slice pA0 p.procs.length pc0, .slice none 0 0] 56 (0, 0))) (hb : base ≤ wx.heap.size) :
  CoT wx wx kb eb base gA lA gA0 lA0 pA0 gc lc gc0 lc0 pc0 p [] [] [] :=
 ⟨none, 0, none, 0, none, 0, 0, hkb, heb, ⟨World.ownsRow_nil _ _ _ _, hb⟩, ⟨World.ownsRow_nil _ _ _ _, hb⟩, fun b h => (by cases h), GrwX.nil hb, Keep.refl _ _⟩
theorem strs_rowO {base : Nat} {w : World} {A : Option Addr} {c : Nat} {zs : List ByteArray} (h : OwnX base w 9 1 (.slice A zs.length c) zs.length (zs.map Value.string)) (hz : ∀ z ∈ zs, z.size ≤ maxLen) : StrRowO w (fun b => base ≤ b ∧ b < w.heap.size ∧ (Value.slice A zs.length c).ownBlock = some b) A zs := by
 refine ⟨zs.map Value.string, fun _ _ => False, ⟨Own.rd h.own, fun hn => ?_, fun i b _ hg => hg.elim, fun i j b _ _ _ hg => hg.elim⟩, fun i hi => ⟨?_, hz _ (List.getElem_mem hi)⟩⟩
 ·rcases h.1.2 with ⟨he, h0⟩ | ⟨g, cap, cur, he, hb, hg, _⟩
  ·omega
  ·injection he with he
   subst he
   exact ⟨g, 0, cur, _, rfl, ⟨hb, lt_of_block hg, rfl⟩, hg, fun _ _ hf => hf⟩
 ·apply List.ext_getElem?
  intro j
  rw [List.getElem?_take]
  by_cases hj : j < 1
  ·have : j = 0 := by omega
   subst this
   rw [if_pos (by omega), List.getElem?_drop]
   simp [hi]
  ·rw [if_neg hj, List.getElem?_eq_none (by simp; omega)]
theorem strX_cap {base : Nat} {w : World} {A : Option Addr} {n c : Nat} {xs : List Value} (h : OwnX base w 9 1 (.slice A n c) n xs) : n ≤ c ∧ c ≤ maxLen := by
 obtain ⟨A', c', e, hc⟩ := own_slice h.1
 injection e with _ _ e
 subst e
 exact ⟨hc, own_cap h.1⟩
theorem CoT.code {w1 wx wr : World} {kb eb base : Nat} {gA lA gA0 lA0 pA0 : Option Addr} {gc lc gc0 lc0 pc0 : Nat} {p : Pg} (hN : CoN2 w1 wr kb base gA lA gc lc p) (h : CoT wx wr kb eb base gA lA gA0 lA0 pA0 gc lc gc0 lc0 pc0 p (pnames p.procs) (entR (envP p) 0 p.procs) (insR (envP p) 0 p.procs)) (hkb2 : kb < base) (hf : faultR p = 0) (hnm : ∀ z ∈ pnames p.procs, z.size ≤ maxLen) (hw1 : w1.heap.size ≤ base) :
  ∃ nA nc eA ec iA ic, wr.heap[kb]? = some (.cells #[.slice gA p.globals.length gc, .slice lA p.locks.length lc, .slice nA (pnames p.procs).length nc, .slice eA (entR (envP p) 0 p.procs).length ec, .slice none 0 0] 32 (0, 0)) ∧ wr.heap[eb]? = some (.cells #[.slice gA0 p.globals.length gc0, .slice lA0 p.locks.length lc0, .slice pA0 p.procs.length pc0, .slice iA (insR (envP p) 0 p.procs).length ic] 56 (0, 0)) ∧
   CdO wr (fun b => w1.heap.size ≤ b ∧ b < wr.heap.size ∧ b ≠ kb) ⟨gA, gc, lA, lc, nA, nc, eA, ec, iA, ic⟩ (codeP p) := by
 obtain ⟨nA, nc, eA, ec, iA, n, ic, hb, hbe, hn, he, hd, hi, _⟩ := h
 obtain ⟨A', c', e1, q1, q2⟩ := hi.slice
 injection e1 with e1 e2 e3
 subst e1 e2 e3
 obtain ⟨a, b, H, h1, h2, r0, r1⟩ := hN
 have hcap := intX_cap he
 have hcap2 := strX_cap hn
 have hfa := fault_facts hf
 have hbz := he.2
 have hrow := ints_rowO he (ent_in (fun q hq => (hfa.2.2.2 q hq).2) (by omega))
 have hrow2 := strs_rowO hn hnm
 have hir := hi.row
 refine ⟨nA, nc, eA, ec, iA, ic, hb, hbe, fun i => if i < 2 then H i else if i = 2 then (fun b => base ≤ b ∧ b < wr.heap.size ∧ (Value.slice nA (pnames p.procs).length nc).ownBlock = some b) else if i = 3 then (fun b => base ≤ b ∧ b < wr.heap.size ∧ (Value.slice eA (entR (envP p) 0 p.procs).length ec).ownBlock = some b) else if i = 4 then (fun b => base ≤ b ∧ b < wr.heap.size ∧ ¬ ((Value.slice nA (pnames p.procs).length nc).ownBlock = some b ∨ (Value.slice eA (entR (envP p) 0 p.procs).length ec).ownBlock = some b)) else fun _ => False, fun i b h => ?_, fun i j b hne ha hb => ?_, ⟨a.1, a.2, r0⟩, ⟨b.1, b.2, r1⟩, ⟨hcap2.1, hcap2.2, hrow2⟩, ⟨hcap.1, hcap.2, hrow⟩, ⟨q1, q2, hir⟩⟩
 ·simp only at h
  split at h
  ·have := h1 i b h; omega
  ·split at h
   ·omega
   ·split at h
    ·omega
    ·split at h
     ·omega
     ·exact h.elim
 ·have key : ∀ i j b, i < j → (if i < 2 then H i else if i = 2 then (fun b => base ≤ b ∧ b < wr.heap.size ∧ (Value.slice nA (pnames p.procs).length nc).ownBlock = some b) else if i = 3 then (fun b => base ≤ b ∧ b < wr.heap.size ∧ (Value.slice eA (entR (envP p) 0 p.procs).length ec).ownBlock = some b) else if i = 4 then (fun b => base ≤ b ∧ b < wr.heap.size ∧ ¬ ((Value.slice nA (pnames p.procs).length nc).ownBlock = some b ∨ (Value.slice eA (entR (envP p) 0 p.procs).length ec).ownBlock = some b)) else fun _ => False) b →
    (if j < 2 then H j else if j = 2 then (fun b => base ≤ b ∧ b < wr.heap.size ∧ (Value.slice nA (pnames p.procs).length nc).ownBlock = some b) else if j = 3 then (fun b => base ≤ b ∧ b < wr.heap.size ∧ (Value.slice eA (entR (envP p) 0 p.procs).length ec).ownBlock = some b) else if j = 4 then (fun b => base ≤ b ∧ b < wr.heap.size ∧ ¬ ((Value.slice nA (pnames p.procs).length nc).ownBlock = some b ∨ (Value.slice eA (entR (envP p) 0 p.procs).length ec).ownBlock = some b)) else fun _ => False) b → False := by
   intro i j b hij ha hb
   split at ha
   ·have hA := h1 i b ha
    split at hb
    ·exact h2 i j b (by omega) ha hb
    ·split at hb
     ·omega
     ·split at hb
      ·omega
      ·split at hb
       ·omega
       ·exact hb
   ·split at ha
    ·split at hb
     ·omega
     ·split at hb
      ·omega
      ·split at hb
       ·exact hd b ha.2.2 hb.2.2
       ·split at hb
        ·exact hb.2.2 (.inl ha.2.2)
        ·exact hb
    ·split at ha
     ·split at hb
      ·omega
      ·split at hb
       ·omega
       ·split at hb
        ·omega
        ·split at hb
         ·exact hb.2.2 (.inr ha.2.2)
         ·exact hb
     ·split at ha
      ·split at hb
       ·omega
       ·split at hb
        ·omega
        ·split at hb
         ·omega
         ·split at hb
          ·omega
          ·exact hb
      ·exact ha
  rcases Nat.lt_or_gt_of_ne hne with h | h
  ·exact key i j b h ha hb
  ·exact key j i b h hb ha
theorem s5_2 {w : World} {g : Nat} {a b c d e : Value} {T : TypeId} (h : w.heap[g]? = some (.cells #[a, b, c, d, e] T (0, 0))) (u : Value) : (w.setCell ⟨g, 2, none⟩ u).heap[g]? = some (.cells #[a, b, u, d, e] T (0, 0)) := by simp [World.setCell, Array.getElem?_modify, h]
abbrev Sq (kb pb b : Nat) (o : Nat) (x y : Value) (w : World) : Prop := w.cell? ⟨pb, 2, none⟩ = some x ∧ w.cell? ⟨b, o, none⟩ = some y ∧ w.frozen? ⟨kb, 2, none⟩ = false ∧ kb < w.heap.size
theorem Sq.drew {w : World} {kb pb b : Nat} {o : Nat} {x y : Value} (h : Sq kb pb b o x y w) : Sq kb pb b o x y w.drew := h
theorem Sq.alloc {w : World} {kb pb b : Nat} {o : Nat} {x y : Value} (h : Sq kb pb b o x y w) (ob : Obj) : Sq kb pb b o x y (w.alloc ob) := by
 have hb : Below w.heap.size w (w.alloc ob) := Below.alloc (Below.refl _ _) (Nat.le_refl _) _
 exact ⟨cell_keep hb h.1, cell_keep hb h.2.1, (hb.frozen (p := ⟨kb, 2, none⟩) h.2.2.2).trans h.2.2.1, by have := h.2.2.2; simp; omega⟩
theorem Sq.set {w : World} {kb pb b : Nat} {o : Nat} {x y : Value} (h : Sq kb pb b o x y w) (n1 : ¬ kb = pb) (n2 : ¬ kb = b) (v : Value) : Sq kb pb b o x y (w.setCell ⟨kb, 2, none⟩ v) :=
 ⟨by rw [World.cell?_setCell_other _ _ _ _ (fun e => by injection e with e; exact n1 e)]; exact h.1, by rw [World.cell?_setCell_other _ _ _ _ (fun e => by injection e with e; exact n2 e)]; exact h.2.1, by simpa using h.2.2.1, by simpa using h.2.2.2⟩
abbrev Sq3 (kb pb b : Nat) (x y : Value) (w : World) : Prop := w.cell? ⟨pb, 3, none⟩ = some x ∧ w.cell? ⟨b, 2, none⟩ = some y ∧ w.frozen? ⟨kb, 3, none⟩ = false ∧ kb < w.heap.size
theorem Sq3.drew {w : World} {kb pb b : Nat} {x y : Value} (h : Sq3 kb pb b x y w) : Sq3 kb pb b x y w.drew := h
theorem Sq3.alloc {w : World} {kb pb b : Nat} {x y : Value} (h : Sq3 kb pb b x y w) (ob : Obj) : Sq3 kb pb b x y (w.alloc ob) := by
 have hb : Below w.heap.size w (w.alloc ob) := Below.alloc (Below.refl _ _) (Nat.le_refl _) _
 exact ⟨cell_keep hb h.1, cell_keep hb h.2.1, (hb.frozen (p := ⟨kb, 3, none⟩) h.2.2.2).trans h.2.2.1, by have := h.2.2.2; simp; omega⟩
theorem Sq3.set {w : World} {kb pb b : Nat} {x y : Value} (h : Sq3 kb pb b x y w) (n1 : ¬ kb = pb) (n2 : ¬ kb = b) (v : Value) : Sq3 kb pb b x y (w.setCell ⟨kb, 3, none⟩ v) :=
 ⟨by rw [World.cell?_setCell_other _ _ _ _ (fun e => by injection e with e; exact n1 e)]; exact h.1, by rw [World.cell?_setCell_other _ _ _ _ (fun e => by injection e with e; exact n2 e)]; exact h.2.1, by simpa using h.2.2.1, by simpa using h.2.2.2⟩
theorem three_alloc {w : World} {p q r : Addr} {x y z : Value} (h : w.cell? p = some x ∧ w.cell? q = some y ∧ w.cell? r = some z) (o : Obj) : (w.alloc o).cell? p = some x ∧ (w.alloc o).cell? q = some y ∧ (w.alloc o).cell? r = some z := by
 have hb : Below w.heap.size w (w.alloc o) := Below.alloc (Below.refl _ _) (Nat.le_refl _) _
 exact ⟨cell_keep hb h.1, cell_keep hb h.2.1, cell_keep hb h.2.2⟩
end Go.Proofs.YtnmblfonmfjoeaaGreatDoor
