/- Lemmas for the row. -/
import Derived.Test.YtnmblfonmfjoeaaGreatDoorKc50
import Derived.Test.YtnmblfonmfjoeaaGreatDoorKc46
namespace Go.Proofs.YtnmblfonmfjoeaaGreatDoor
open Go.RowKit
set_option maxHeartbeats 64000000
set_option maxRecDepth 100000
set_option linter.unusedVariables false
theorem zero_cdOS (w : World) (F : Nat → Prop) : CdO w F ⟨none, 0, none, 0, none, 0, none, 0, none, 0⟩ zeroCd :=
 ⟨fun _ _ => False, fun _ _ h => h.elim, fun _ _ _ _ h => h.elim, ⟨Nat.le_refl _, Nat.zero_le _, [], fun _ _ => False, RowO.nil _ _ _ _ _, fun i h => absurd h (by simp [zeroCd])⟩, ⟨Nat.le_refl _, Nat.zero_le _, [], fun _ _ => False, RowO.nil _ _ _ _ _, fun i h => absurd h (by simp [zeroCd])⟩, ⟨Nat.le_refl _, Nat.zero_le _, [], fun _ _ => False, RowO.nil _ _ _ _ _, fun i h => absurd h (by simp [zeroCd])⟩, ⟨Nat.le_refl _, Nat.zero_le _, [], fun _ _ => False, RowO.nil _ _ _ _ _, fun i h => absurd h (by simp [zeroCd])⟩, ⟨Nat.le_refl _, Nat.zero_le _, [], fun _ _ => False, RowO.nil _ _ _ _ _, fun i h => absurd h (by simp [zeroCd])⟩⟩
theorem spec_CodeOf_bad (p : Pg) (x : V3) (w : World) (hp : PgIs w x p) (htot : totPg p ≤ 1048576) (hf : ¬ faultR p = 0) :
  Calls Tryz.prog 7 #[x.val p] w (RetCO w (codeR p)) := by
 rw [codeR_bad hf]
 obtain ⟨gA, gc, lA, lc, pA, pc⟩ := x
 unfold V3.val
 have HP := qh hp
 have hne : (faultR p != 0) = true := by simp [hf]
 clear hp hf
 go_enter Tryz.func7, Tryz.ntmps7
 go_wp2_with fail
 refine (spec_ProgFault p ⟨gA, gc, lA, lc, pA, pc⟩ _ (HP.out.belowA zB) htot).mono ?_
 rintro e w1 ⟨rfl, b1⟩
 have B1 : Hid (Below w.heap.size w w1) := qh (Below.trans (zB : Below w.heap.size w ((w.alloc (.cells #[.slice gA p.globals.length gc, .slice lA p.locks.length lc, .slice pA p.procs.length pc] 27)).alloc (.cells #[.slice none 0 0, .slice none 0 0, .slice none 0 0, .slice none 0 0, .slice none 0 0] 32))) (b1.mono (by simp; omega)))
 have RB : Hid (w1.heap[(w.heap.size + 1)]? = some (.cells #[.slice none 0 0, .slice none 0 0, .slice none 0 0, .slice none 0 0, .slice none 0 0] 32 (0, 0))) := qh ((b1.block (w.heap.size + 1) (by simp)).trans (by have := heap_alloc_new (w.alloc (.cells #[.slice gA p.globals.length gc, .slice lA p.locks.length lc, .slice pA p.procs.length pc] 27)) (.cells #[.slice none 0 0, .slice none 0 0, .slice none 0 0, .slice none 0 0, .slice none 0 0] 32); simpa using this))
 obtain ⟨y0, y1, y2, y3, y4, -, -⟩ := box5 RB.out
 obtain ⟨f0, f1, f2, f3, f4⟩ := box5f RB.out
 have hz := b1.size
 simp only [World.size_alloc] at hz
 clear b1
 go_wp2_with fail
 have FB : Hid (Below w.heap.size w (((((w1.setCell ⟨w.heap.size + 1, 0, none⟩ (.slice none 0 0)).setCell ⟨w.heap.size + 1, 1, none⟩ (.slice none 0 0)).setCell ⟨w.heap.size + 1, 2, none⟩ (.slice none 0 0)).setCell ⟨w.heap.size + 1, 3, none⟩ (.slice none 0 0)).setCell ⟨w.heap.size + 1, 4, none⟩ (.slice none 0 0))) := qh (five_below B1.out (by omega) _ _ _ _ _)
 have RF := qh (s5_all RB.out (.slice none 0 0) (.slice none 0 0) (.slice none 0 0) (.slice none 0 0) (.slice none 0 0))
 obtain ⟨z0, z1, z2, z3, z4, -, -⟩ := box5 RF.out
 exact bodyPost_ret (v := .tuple #[.agg #[.slice none 0 0, .slice none 0 0, .slice none 0 0, .slice none 0 0, .slice none 0 0], .bool false]) (by simp [results, Tryz.results7, go_sem, z0, z1, z2, z3, z4]) rfl ⟨⟨none, 0, none, 0, none, 0, none, 0, none, 0⟩, rfl, zero_cdOS _ _, FB.out⟩
theorem spec_CodeOf_good (p : Pg) (x : V3) (w : World) (hp : PgIs w x p) (htot : totPg p ≤ 1048576) (hf : faultR p = 0) :
  Calls Tryz.prog 7 #[x.val p] w (RetCO w (codeR p)) := by
 rw [codeR_good hf]
 obtain ⟨gA, gc, lA, lc, pA, pc⟩ := x
 unfold V3.val
 have HP := qh hp
 have HF := qh hf
 have hne : (faultR p != 0) = false := by simp [hf]
 obtain ⟨hg6, hl6, hp8, hq⟩ := fault_facts hf
 have HQ := qh hq
 have hcap := hp.p2
 have hcl := hp.p1
 simp only at hcap hcl
 unfold maxLen at hcap
 clear hp hf hq
 go_enter Tryz.func7, Tryz.ntmps7
 go_wp2_with fail
 refine (spec_ProgFault p ⟨gA, gc, lA, lc, pA, pc⟩ _ (HP.out.belowA zB) htot).mono ?_
 rintro e w1 ⟨rfl, b1⟩
 have B1 : Hid (Below w.heap.size w w1) := qh (Below.trans (zB : Below w.heap.size w ((w.alloc (.cells #[.slice gA p.globals.length gc, .slice lA p.locks.length lc, .slice pA p.procs.length pc] 27)).alloc (.cells #[.slice none 0 0, .slice none 0 0, .slice none 0 0, .slice none 0 0, .slice none 0 0] 32))) (b1.mono (by simp; omega)))
 have RB : Hid (w1.heap[(w.heap.size + 1)]? = some (.cells #[.slice none 0 0, .slice none 0 0, .slice none 0 0, .slice none 0 0, .slice none 0 0] 32 (0, 0))) := qh ((b1.block (w.heap.size + 1) (by simp)).trans (by have := heap_alloc_new (w.alloc (.cells #[.slice gA p.globals.length gc, .slice lA p.locks.length lc, .slice pA p.procs.length pc] 27)) (.cells #[.slice none 0 0, .slice none 0 0, .slice none 0 0, .slice none 0 0, .slice none 0 0] 32); simpa using this))
 have PB : Hid (w1.heap[w.heap.size]? = some (.cells #[.slice gA p.globals.length gc, .slice lA p.locks.length lc, .slice pA p.procs.length pc] 27 (0, 0))) := qh ((b1.block w.heap.size (by simp; omega)).trans ((heap_alloc_lt (by simp)).trans (heap_alloc_new _ _)))
 have hz1 := b1.size
 simp only [World.size_alloc] at hz1
 have P1 := qh (HP.out.belowA B1.out)
 clear b1
 obtain ⟨q0, q1, q2⟩ := box3P PB.out
 have hpb1 : w.heap.size < w1.heap.size := by omega
 go_upto_region 3 with fail
 go_cut [4] from 5 to 67 (fun v4 wx => ∃ kb gA1 lA1 gc1 lc1, v4 = .pointer (some ⟨kb, 0, none⟩) ∧ Hid (CoN2 w1 wx kb wx.heap.size gA1 lA1 gc1 lc1 p ∧ w1.heap.size ≤ kb ∧ kb < wx.heap.size ∧ Below w1.heap.size w1 wx ∧ wx.heap[kb]? = some (.cells #[.slice gA1 p.globals.length gc1, .slice lA1 p.locks.length lc1, .slice none 0 0, .slice none 0 0, .slice none 0 0] 32 (0, 0))))
 case first =>
  have hg5 : p.globals.length ≤ 100000 := by omega
  have hl5 : p.locks.length ≤ 100000 := by omega
  have hHeld := sp3_of q0 q1 q2 hpb1 (Below.refl w1.heap.size w1).drew
  refine wp_region_noPanic ?_
  refine wp_region_sk (fun w' => w'.cell? ⟨w.heap.size, 0, none⟩ = some (.slice gA p.globals.length gc) ∧ w'.cell? ⟨w.heap.size, 1, none⟩ = some (.slice lA p.locks.length lc) ∧ w'.cell? ⟨w.heap.size, 2, none⟩ = some (.slice pA p.procs.length pc) ∧ Below w1.heap.size w1 w') 10 (by kernel_rfl) hHeld (fun _ => ?_)
  obtain ⟨u, hu0⟩ : ∃ u, w1.drew = u := ⟨_, rfl⟩
  have hsu : w1.heap.size ≤ u.heap.size := by rw [← hu0]; exact Nat.le_refl _
  rw [hu0] at hHeld ⊢
  clear hu0
  have Bu : Hid (Below w1.heap.size w1 u) := qh hHeld.2.2.2
  refine skT 1 ?_
  refine skT 2 ?_
  refine skT 5 ?_
  refine skT 6 ?_
  have m0 := trivial
  have m4 := trivial
  have m9 := trivial
  iterate 5 all_goals
   refine wpSk5 0 3 4 7 9 (by kernel_rfl) ?_ ?_ ?_ ?_ ?_ <;> first
    |clear m0
     refine skYes 0 rfl fun K hK => ?_
     go_simp
     refine hK.out _ _ (fun _ => sp3_of q0 q1 q2 hpb1 (Bu.out.alloc (by omega) _)) ?_
     clear hK K hHeld
     obtain ⟨u, hu⟩ : ∃ x, u.alloc (.cells #[] 9) = x := ⟨_, rfl⟩
     rw [hu]
     obtain ⟨he, bu, hsa, hsb⟩ := alloc_facts hu
     replace Bu : Hid (Below w1.heap.size w1 u) := qh (below_then Bu.out bu)
     try replace He1 := qh ((bu.block _ (lt_of_block He1.out)).trans He1.out)
     try replace He2 := qh ((bu.block _ (lt_of_block He2.out)).trans He2.out)
     try replace Hkb := qh ((bu.block _ (lt_of_block Hkb.out)).trans Hkb.out)
     try replace HRG := qh ((bu.block nG (by omega)).trans HRG.out)
     try replace HRL := qh ((bu.block nL (by omega)).trans HRL.out)
     have He1 := qh he
     clear hu bu he
     have hHeld := sp3_of q0 q1 q2 hpb1 Bu.out
     try simp only [Act.put, layS, layZ, layC]
    |have := He1
     refine skYes 3 rfl fun K hK => ?_
     refine step_clone (by rfl) _ _ (by rfl) (by rfl) gA p.globals gc (by rfl) He1.out (P1.out.belowA Bu.out).g3 P1.out.g4 hg5 ?_
     rintro v' u ⟨gA1, gc1, nG, rfl, hcG, RG, hnG, hmG, ku⟩
     replace Bu : Hid (Below w1.heap.size w1 u) := qh (below_kpS Bu.out ku (fun b hb => by omega))
     have hsa := ku.size
     refine hK.out _ _ (fun _ => sp3_of q0 q1 q2 hpb1 Bu.out) ?_
     clear hK K hHeld He1
     try replace He2 := qh ((ku.block _ (lt_of_block He2.out) (by omega)).trans He2.out)
     try replace Hkb := qh ((ku.block _ (lt_of_block Hkb.out) (by omega)).trans Hkb.out)
     have HRG : Hid (u.heap[nG]? = u.heap[nG]?) := qh rfl
     clear ku
     have hHeld := sp3_of q0 q1 q2 hpb1 Bu.out
     try simp only [Act.put, layS, layZ, layC]
    |clear m4
     refine skYes 4 rfl fun K hK => ?_
     go_simp
     refine hK.out _ _ (fun _ => sp3_of q0 q1 q2 hpb1 (Bu.out.alloc (by omega) _)) ?_
     clear hK K hHeld
     obtain ⟨u, hu⟩ : ∃ x, u.alloc (.cells #[] 9) = x := ⟨_, rfl⟩
     rw [hu]
     obtain ⟨he, bu, hsa, hsb⟩ := alloc_facts hu
     replace Bu : Hid (Below w1.heap.size w1 u) := qh (below_then Bu.out bu)
     try replace He1 := qh ((bu.block _ (lt_of_block He1.out)).trans He1.out)
     try replace He2 := qh ((bu.block _ (lt_of_block He2.out)).trans He2.out)
     try replace Hkb := qh ((bu.block _ (lt_of_block Hkb.out)).trans Hkb.out)
     try replace HRG := qh ((bu.block nG (by omega)).trans HRG.out)
     try replace HRL := qh ((bu.block nL (by omega)).trans HRL.out)
     have He2 := qh he
     clear hu bu he
     have hHeld := sp3_of q0 q1 q2 hpb1 Bu.out
     try simp only [Act.put, layS, layZ, layC]
    |have := HRG
     refine skYes 7 rfl fun K hK => ?_
     refine step_clone (by rfl) _ _ (by rfl) (by rfl) lA p.locks lc (by rfl) He2.out (P1.out.belowA Bu.out).l3 P1.out.l4 hl5 ?_
     rintro v' u ⟨lA1, lc1, nL, rfl, hcL, RL, hnL, hmL, ku⟩
     replace Bu : Hid (Below w1.heap.size w1 u) := qh (below_kpS Bu.out ku (fun b hb => by omega))
     have hsa := ku.size
     refine hK.out _ _ (fun _ => sp3_of q0 q1 q2 hpb1 Bu.out) ?_
     clear hK K hHeld He2
     try replace Hkb := qh ((ku.block _ (lt_of_block Hkb.out) (by omega)).trans Hkb.out)
     try replace HRG := qh ((ku.block nG (by omega) (by omega)).trans HRG.out)
     have HRL : Hid (u.heap[nL]? = u.heap[nL]?) := qh rfl
     clear ku
     have hHeld := sp3_of q0 q1 q2 hpb1 Bu.out
     try simp only [Act.put, layS, layZ, layC]
     refine skT 8 ?_
    |clear m9
     refine skYes 9 rfl fun K hK => ?_
     go_simp
     refine hK.out _ _ (fun _ => sp3_of q0 q1 q2 hpb1 (Bu.out.alloc (by omega) _)) ?_
     clear hK K hHeld
     obtain ⟨u, hu⟩ : ∃ x, u.alloc (.cells #[.slice none 0 0, .slice none 0 0, .slice none 0 0, .slice none 0 0, .slice none 0 0] 32) = x := ⟨_, rfl⟩
     rw [hu]
     obtain ⟨he, bu, hsa, hsb⟩ := alloc_facts hu
     replace Bu : Hid (Below w1.heap.size w1 u) := qh (below_then Bu.out bu)
     try replace He1 := qh ((bu.block _ (lt_of_block He1.out)).trans He1.out)
     try replace He2 := qh ((bu.block _ (lt_of_block He2.out)).trans He2.out)
     try replace Hkb := qh ((bu.block _ (lt_of_block Hkb.out)).trans Hkb.out)
     try replace HRG := qh ((bu.block nG (by omega)).trans HRG.out)
     try replace HRL := qh ((bu.block nL (by omega)).trans HRL.out)
     have Hkb := qh he
     clear hu bu he
     have hHeld := sp3_of q0 q1 q2 hpb1 Bu.out
     try simp only [Act.put, layS, layZ, layC]
    | exact skNo
  all_goals
   clear hHeld
   obtain ⟨y0, y1, y2, y3, y4, -, -⟩ := box5 Hkb.out
   obtain ⟨fz0, fz1, fz2, fz3, fz4⟩ := box5f Hkb.out
   have hkl := lt_of_block Hkb.out
   refine wpSk_step (i := 10) (by kernel_rfl) rfl fun K hK => ?_
   go_simp
   refine hK.out _ _ (fun h => absurd h (by decide)) ?_
   clear hK K
   refine wpSk_done (by kernel_rfl) ?_ _
   refine NoPanic.normal ?_
   go_wp2_with fail
   go_meet
   exact ⟨_, gA1, lA1, gc1, lc1, rfl, qh (con2_done rfl hcG hcL RG.out RL.out (by first | exact HRG.out | rfl) (by first | exact HRL.out | rfl) Hkb.out Bu.out (by omega) (by omega) (by omega) (by omega) (by omega) (by omega) (by omega) (by omega))⟩
 case rest =>
  rename World => wx
  obtain ⟨kb, gA1, lA1, gc1, lc1, rfl, HC⟩ := hcut
  obtain ⟨hcon, hkb1, hkb2, hbx, hkbx⟩ := HC.out
  have CN := qh hcon
  have BX := qh hbx
  have KBX := qh hkbx
  have PBX := qh ((hbx.block w.heap.size hpb1).trans PB.out)
  have RBX := qh ((hbx.block (w.heap.size + 1) (by omega)).trans RB.out)
  have BW := qh (below_then B1.out hbx)
  have hzx := hbx.size
  clear HC hcon hbx hkbx q0 q1 q2 PB RB
  obtain ⟨q0, q1, q2⟩ := box3P PBX.out
  go_wp2_with fail
  obtain ⟨eb, heb⟩ : ∃ n, wx.heap.size = n := ⟨_, rfl⟩
  obtain ⟨wy, hwy⟩ : ∃ u, wx.alloc (.cells #[.slice gA p.globals.length gc, .slice lA p.locks.length lc, .slice pA p.procs.length pc, .slice none 0 0] 56) = u := ⟨_, rfl⟩
  have BY : Hid (Below wx.heap.size wx wy) := qh (by rw [← hwy]; exact Below.alloc (Below.refl _ _) (Nat.le_refl _) _)
  have EBY : Hid (wy.heap[eb]? = some (.cells #[.slice gA p.globals.length gc, .slice lA p.locks.length lc, .slice pA p.procs.length pc, .slice none 0 0] 56 (0, 0))) := qh (by rw [← heb, ← hwy]; exact heap_alloc_new _ _)
  have hszy : wy.heap.size = wx.heap.size + 1 := by rw [← hwy]; simp
  have KBY := qh ((BY.out.block kb hkb2).trans KBX.out)
  have PBY := qh ((BY.out.block w.heap.size (by omega)).trans PBX.out)
  have RBY := qh ((BY.out.block (w.heap.size + 1) (by omega)).trans RBX.out)
  have BWY := qh (below_then BW.out BY.out)
  obtain ⟨base, hbs⟩ : ∃ n, wy.heap.size = n := ⟨_, rfl⟩
  have CNY : Hid (CoN2 w1 wy kb eb gA1 lA1 gc1 lc1 p) := qh (CN.out.keep (fun b _ hb _ => BY.out.block b hb) (by omega))
  have hb1 : wy.heap.size ≤ base := by omega
  have hb2 : base ≤ wy.heap.size := by omega
  have hkb3 : kb < base := by omega
  have heb3 : eb < base := by omega
  have hke : ¬ kb = eb := by omega
  have hwe : w1.heap.size ≤ eb := by omega
  have hwP : w.heap.size ≤ eb := by omega
  have hwb : w1.heap.size ≤ base := by omega
  (try rw [heb])
  (try rw [hwy])
  clear hbs hszy hwy heb hzx hkb2 BX CN KBX PBX RBX BW BY q0 q1 q2
  obtain ⟨q0, q1, q2⟩ := box3P PBY.out
  go_wp2_with fail
  go_loopw [6] (fun i wr => ∃ j : Nat, j ≤ p.procs.length ∧ i = .int .i64 j ∧ Hid (CoT wy wr kb eb base gA1 lA1 gA lA pA gc1 lc1 gc lc pc p (pnames (p.procs.take j)) (entR (envP p) 0 (p.procs.take j)) (insR (envP p) 0 (p.procs.take j)))) (fun i _ => p.procs.length - (intOf i).toNat)
  case atStart => exact ⟨0, Nat.zero_le _, rfl, qh (coT_zero KBY.out EBY.out hb2)⟩
  case round =>
   rename World => wr
   obtain ⟨j, hj, rfl, HR⟩ := hrel
   obtain ⟨nA, nc, eA, ec, iA, n, ic, kbr, ebr, own, owe, hd, gi, kp⟩ := HR.out
   have KBR := qh kbr
   have EBR := qh ebr
   have OWN := qh own
   have OWE := qh owe
   have HD := qh hd
   have GIR := qh gi
   have KPR := qh kp
   have hzr := kp.size
   have BWR := qh (below_kp BWY.out kp (by omega) (fun b hb => ⟨by omega, by omega, by omega⟩))
   have RBR := qh ((kp.block (w.heap.size + 1) (by omega) ⟨by omega, by omega, by omega⟩).trans RBY.out)
   have PBR := qh ((kp.block w.heap.size (by omega) ⟨by omega, by omega, by omega⟩).trans PBY.out)
   have HL : Hid ((insR (envP p) 0 (p.procs.take j)).length = n) := qh (by obtain ⟨_, _, e, _, _⟩ := gi.slice; injection e with _ e; exact e.symm)
   have HNL : Hid ((pnames (p.procs.take j)).length = j) := qh (by rw [pnames_len, List.length_take]; omega)
   have HEL : Hid ((entR (envP p) 0 (p.procs.take j)).length = j) := qh (by rw [entR_len, List.length_take]; omega)
   have hn0 : n ≤ 121 * 8 := by
    have h1 := insR_len (envP p) (p.procs.take j) 0 (fun q hq => (HQ.out q (List.mem_of_mem_take hq)).2)
    have h2 : (p.procs.take j).length ≤ 8 := by rw [List.length_take]; omega
    have h3 := HL.out
    omega
   rw [HNL.out, HEL.out] at KBR HD GIR
   rw [HNL.out] at OWN
   rw [HEL.out] at OWE
   clear kbr ebr own owe hd gi kp q0 q1 q2
   obtain ⟨q0, q1, q2⟩ := box3P PBR.out
   have hpbl := lt_of_block PBR.out
   by_cases hlt : j < p.procs.length
   ·obtain ⟨b, off, x, hA, d0', d1', hpr⟩ := rd_proc HP.out.p3 hlt
    have d0 := (BWR.out.cell (p := ⟨b, off + j * 2, none⟩) (cell_lt d0')).trans d0'
    have hbl : b < w.heap.size := cell_lt d0'
    obtain ⟨xs, xA, xm, xc⟩ := x
    obtain ⟨e1, e2, e3, e4, e5, row⟩ := hpr
    simp only at hA d0 d0' d1' e1 e2 e3 e4 e5 row
    subst hA e2
    obtain ⟨hkd, hsn⟩ := HQ.out _ (List.getElem_mem hlt)
    have htb := tot_body hlt htot
    have ROW := qh row
    have KD := qh hkd
    have HNM : Hid (pnames (p.procs.take (j + 1)) = pnames (p.procs.take j) ++ [xs]) := qh (by rw [List.take_succ_eq_append_getElem hlt, ← e1, pnames, List.map_append]; rfl)
    generalize hBD : p.procs[j].body = body at *
    have HBD := qh hBD
    have D1 := qh d1'
    clear row hkd hBD e1 d0' d1'
    have hjl : (j : Int) < (p.procs.length : Int) := by omega
    have hj0 : (0 : Int) ≤ (j : Int) := by omega
    have hkr := lt_of_block KBR.out
    have t1 : j + 1 ≤ 2000000 := by omega
    have OWN0 := qh (OWN.out.keep (w' := wr.drew) (S := fun _ => True) (Keep.of_below (Below.refl _ _).drew) (fun _ _ => trivial)).own
    go_upto_region 8 with fail
    go_cut [6] from 23 to 61 (fun v6 wx => v6 = .int .i64 (j : Int) ∧ Hid (∃ nA1 nc1, wx.heap[kb]? = some (.cells #[.slice gA1 p.globals.length gc1, .slice lA1 p.locks.length lc1, .slice nA1 (j + 1) nc1, .slice eA j ec, .slice none 0 0] 32 (0, 0)) ∧ OwnX base wx 9 1 (.slice nA1 (j + 1) nc1) (j + 1) ((pnames (p.procs.take j)).map Value.string ++ [.string xs]) ∧ OwnX base wx 3 1 (.slice eA j ec) j ((entR (envP p) 0 (p.procs.take j)).map (Value.int .i64)) ∧ (∀ b, (Value.slice nA1 (j + 1) nc1).ownBlock = some b → (Value.slice eA j ec).ownBlock ≠ some b) ∧ GrwI base (fun b => (Value.slice nA1 (j + 1) nc1).ownBlock = some b ∨ (Value.slice eA j ec).ownBlock = some b) wx (.slice iA n ic) (insR (envP p) 0 (p.procs.take j)) ∧ Keep (fun b => b < base ∧ b ≠ kb) wr wx))
    case first =>
     obtain ⟨k0, k1, k2, k3, k4, -, -⟩ := box5 KBR.out
     have hS0 : wr.drew.cell? ⟨w.heap.size, 2, none⟩ = some (.slice (some ⟨b, off, none⟩) p.procs.length pc) ∧ wr.drew.cell? ⟨b, off + j * 2, none⟩ = some (.string xs) ∧ wr.drew.cell? ⟨kb, 2, none⟩ = some (.slice nA j nc) := ⟨q2, d0, k2⟩
     refine wp_region_noPanic ?_
     refine wp_region_sk (fun w' => w'.cell? ⟨w.heap.size, 2, none⟩ = some (.slice (some ⟨b, off, none⟩) p.procs.length pc) ∧ w'.cell? ⟨b, off + j * 2, none⟩ = some (.string xs) ∧ w'.cell? ⟨kb, 2, none⟩ = some (.slice nA j nc)) 11 (by kernel_rfl) hS0 (fun hHeld => ?_)
     refine skT 0 ?_
     refine skT 1 ?_
     refine skT 2 ?_
     refine skT 3 ?_
     refine skT 4 ?_
     refine skT 5 ?_
     refine skT 6 ?_
     refine skT 7 ?_
     refine wpSk_step (i := 8) (by kernel_rfl) rfl (fun K hK => ?_)
     go_simp
     refine hK.out _ _ (fun _ => three_alloc hHeld _) ?_
     clear hK K hHeld
     try simp only [Act.put, layS, layZ, layC]
     refine wpSk_step (i := 9) (by kernel_rfl) rfl (fun K hK => ?_)
     refine step_appG _ strT (by rfl) _ _ (by rfl) (by rfl) (OWN0.out.alloc _) _ 1 1 [.string xs] (by rfl) (by first | exact Rd.new _ 1 1 _ _ rfl | exact (Rd.new _ 1 1 _ _ rfl).drew) (by simp [Value.oneCell']) t1 (by decide) ?_
     intro v' w7 own' gr'
     have GZ' : Grew (.slice nA j nc) v' wr.drew w7 := (Grew.of_below (Below.alloc (Below.refl _ _) (Nat.le_refl _) _)).trans gr'
     have hog : ∀ b, b < base → (Value.slice nA j nc).ownBlock ≠ some b := (fun b hb e => by have := (OWN.out.lt b e).1; omega)
     have KZ := qh ((GZ'.keep.block kb hkr (hog kb hkb3)).trans KBR.out)
     have PZ := qh ((GZ'.keep.block w.heap.size hpbl (hog _ (by omega))).trans PBR.out)
     have d0z := (GZ'.keep.cell (p := ⟨b, off + j * 2, none⟩) (cell_lt d0) (hog b (by omega))).trans d0
     obtain ⟨-, -, q2'⟩ := box3P PZ.out
     have hNew : w7.cell? ⟨w.heap.size, 2, none⟩ = some (.slice (some ⟨b, off, none⟩) p.procs.length pc) ∧ w7.cell? ⟨b, off + j * 2, none⟩ = some (.string xs) ∧ w7.cell? ⟨kb, 2, none⟩ = some (.slice nA j nc) := ⟨q2', d0z, (box5 KZ.out).2.2.1⟩
     obtain ⟨nA1, nc1, rfl, _⟩ := own'.slice
     have OW7 := qh own'
     have GZ := qh GZ'
     clear own' gr' GZ'
     refine hK.out _ _ (fun _ => hNew) ?_
     clear hK K
     have hHeld := hNew
     clear hNew
     try simp only [Act.put, layS, layZ, layC]
     refine skT 10 ?_
     clear hHeld hS0
     obtain ⟨y0, y1, y2, y3, y4, -, -⟩ := box5 KZ.out
     have fz2 := (box5f KZ.out).2.2.1
     have hy := lt_of_block KZ.out
     refine wpSk_step (i := 11) (by kernel_rfl) rfl (fun K hK => ?_)
     go_simp
     refine hK.out _ _ (fun h => absurd h (by decide)) ?_
     clear hK K
     refine wpSk_done (by kernel_rfl) ?_ _
     refine NoPanic.normal ?_
     go_wp2_with fail
     go_meet
     obtain ⟨r1, r2, r3, r4, r5⟩ := two_app (o := 2) (kb := kb) (OWN.out.keep (S := fun _ => True) (Keep.of_below (Below.refl _ _).drew) (fun _ _ => trivial)) (OWE.out.keep (S := fun _ => True) (Keep.of_below (Below.refl _ _).drew) (fun _ _ => trivial)) HD.out (GIR.out.below IcP.keepP (Below.refl _ _).drew) (fun b h => .inl h) (fun b h => .inr h) hkb3 OW7.out GZ.out (.slice nA1 (j + 1) nc1)
     exact ⟨rfl, qh ⟨nA1, nc1, s5_2 KZ.out _, r1, r2, r3, r4, (Keep.of_below (S := fun b => b < base ∧ b ≠ kb) (Below.refl _ _).drew).trans r5 (fun _ _ h => h)⟩⟩
    case rest =>
     rename World => wn
     obtain ⟨rfl, HC2⟩ := hcut
     obtain ⟨nA1, nc1, kb2, ow2, oe2, hd2, gi2, kp2⟩ := HC2.out
     have KB2 := qh kb2
     have OWN2 := qh ow2
     have OWE2 := qh oe2
     have HD2 := qh hd2
     have GI2 := qh gi2
     have KP2 := qh kp2
     have hz2 := kp2.size
     have EB2 := qh ((kp2.block eb (lt_of_block EBR.out) ⟨heb3, fun h => hke h.symm⟩).trans EBR.out)
     have PB2 := qh ((kp2.block w.heap.size hpbl ⟨by omega, by omega⟩).trans PBR.out)
     clear HC2 kb2 ow2 oe2 hd2 gi2 kp2 q0 q1 q2 d0
     have OWE20 := qh (OWE2.out.keep (w' := wn.drew) (S := fun _ => True) (Keep.of_below (Below.refl _ _).drew) (fun _ _ => trivial)).own
     obtain ⟨e0, e1, e2, e3, -⟩ := box4 EB2.out
     have hk2 := lt_of_block KB2.out
     have he2 := lt_of_block EB2.out
     go_upto_region 9 with fail
     go_cut [6] from 23 to 61 (fun v6 wx => v6 = .int .i64 (j : Int) ∧ Hid (∃ eA1 ec1, wx.heap[kb]? = some (.cells #[.slice gA1 p.globals.length gc1, .slice lA1 p.locks.length lc1, .slice nA1 (j + 1) nc1, .slice eA1 (j + 1) ec1, .slice none 0 0] 32 (0, 0)) ∧ OwnX base wx 9 1 (.slice nA1 (j + 1) nc1) (j + 1) ((pnames (p.procs.take j)).map Value.string ++ [.string xs]) ∧ OwnX base wx 3 1 (.slice eA1 (j + 1) ec1) (j + 1) ((entR (envP p) 0 (p.procs.take j)).map (Value.int .i64) ++ [.int .i64 (n : Int)]) ∧ (∀ b, (Value.slice eA1 (j + 1) ec1).ownBlock = some b → (Value.slice nA1 (j + 1) nc1).ownBlock ≠ some b) ∧ GrwI base (fun b => (Value.slice eA1 (j + 1) ec1).ownBlock = some b ∨ (Value.slice nA1 (j + 1) nc1).ownBlock = some b) wx (.slice iA n ic) (insR (envP p) 0 (p.procs.take j)) ∧ Keep (fun b => b < base ∧ b ≠ kb) wn wx))
     case first =>
      obtain ⟨k0, k1, k2, k3, k4, -, -⟩ := box5 KB2.out
      have hS0 : wn.drew.cell? ⟨eb, 3, none⟩ = some (.slice iA n ic) ∧ wn.drew.cell? ⟨kb, 3, none⟩ = some (.slice eA j ec) ∧ wn.drew.cell? ⟨kb, 3, none⟩ = some (.slice eA j ec) := ⟨e3, k3, k3⟩
      refine wp_region_noPanic ?_
      refine wp_region_sk (fun w' => w'.cell? ⟨eb, 3, none⟩ = some (.slice iA n ic) ∧ w'.cell? ⟨kb, 3, none⟩ = some (.slice eA j ec) ∧ w'.cell? ⟨kb, 3, none⟩ = some (.slice eA j ec)) 10 (by kernel_rfl) hS0 (fun hHeld => ?_)
      refine skT 0 ?_
      refine skT 1 ?_
      refine skT 2 ?_
      refine skT 3 ?_
      refine skT 4 ?_
      refine skT 5 ?_
      refine skT 6 ?_
      refine wpSk_step (i := 7) (by kernel_rfl) rfl (fun K hK => ?_)
      go_simp
      refine hK.out _ _ (fun _ => three_alloc hHeld _) ?_
      clear hK K hHeld
      try simp only [Act.put, layS, layZ, layC]
      refine wpSk_step (i := 8) (by kernel_rfl) rfl (fun K hK => ?_)
      refine step_appG _ intT (by rfl) _ _ (by rfl) (by rfl) (OWE20.out.alloc _) _ 1 1 [.int .i64 (n : Int)] (by rfl) (by first | exact Rd.new _ 1 1 _ _ rfl | exact (Rd.new _ 1 1 _ _ rfl).drew) (by simp [Value.oneCell']) t1 (by decide) ?_
      intro v' w7 own' gr'
      have GZ' : Grew (.slice eA j ec) v' wn.drew w7 := (Grew.of_below (Below.alloc (Below.refl _ _) (Nat.le_refl _) _)).trans gr'
      have hog : ∀ b, b < base → (Value.slice eA j ec).ownBlock ≠ some b := (fun b hb e => by have := (OWE2.out.lt b e).1; omega)
      have KZ := qh ((GZ'.keep.block kb hk2 (hog kb hkb3)).trans KB2.out)
      have EZ := qh ((GZ'.keep.block eb he2 (hog eb heb3)).trans EB2.out)
      have hNew : w7.cell? ⟨eb, 3, none⟩ = some (.slice iA n ic) ∧ w7.cell? ⟨kb, 3, none⟩ = some (.slice eA j ec) ∧ w7.cell? ⟨kb, 3, none⟩ = some (.slice eA j ec) := ⟨(box4 EZ.out).2.2.2.1, (box5 KZ.out).2.2.2.1, (box5 KZ.out).2.2.2.1⟩
      obtain ⟨eA1, ec1, rfl, _⟩ := own'.slice
      have OW7 := qh own'
      have GZ := qh GZ'
      clear own' gr' GZ'
      refine hK.out _ _ (fun _ => hNew) ?_
      clear hK K
      have hHeld := hNew
      clear hNew
      try simp only [Act.put, layS, layZ, layC]
      refine skT 9 ?_
      clear hHeld hS0
      obtain ⟨y0, y1, y2, y3, y4, -, -⟩ := box5 KZ.out
      have fz3 := (box5f KZ.out).2.2.2.1
      have hy := lt_of_block KZ.out
      refine wpSk_step (i := 10) (by kernel_rfl) rfl (fun K hK => ?_)
      go_simp
      refine hK.out _ _ (fun h => absurd h (by decide)) ?_
      clear hK K
      refine wpSk_done (by kernel_rfl) ?_ _
      refine NoPanic.normal ?_
      go_wp2_with fail
      go_meet
      obtain ⟨r1, r2, r3, r4, r5⟩ := two_app (o := 3) (kb := kb) (OWE2.out.keep (S := fun _ => True) (Keep.of_below (Below.refl _ _).drew) (fun _ _ => trivial)) (OWN2.out.keep (S := fun _ => True) (Keep.of_below (Below.refl _ _).drew) (fun _ _ => trivial)) (fun b h e => HD2.out b e h) (GI2.out.below IcP.keepP (Below.refl _ _).drew) (fun b h => .inr h) (fun b h => .inl h) hkb3 OW7.out GZ.out (.slice eA1 (j + 1) ec1)
      exact ⟨rfl, qh ⟨eA1, ec1, s5_3 KZ.out _, r2, r1, r3, r4, (Keep.of_below (S := fun b => b < base ∧ b ≠ kb) (Below.refl _ _).drew).trans r5 (fun _ _ h => h)⟩⟩
     case rest =>
      rename World => u1
      obtain ⟨rfl, HC3⟩ := hcut
      obtain ⟨eA1, ec1, kb3, on3, oe3, hd3, gi3, kp3⟩ := HC3.out
      have KB3 := qh kb3
      have OWN3 := qh on3
      have OWE3 := qh oe3
      have HD3 := qh hd3
      have GI3 := qh gi3
      have KP3 : Hid (Keep (fun b => b < base ∧ b ≠ kb) wr u1) := qh (KP2.out.trans kp3 (fun _ _ h => h))
      have hz3 := kp3.size
      have EB3 := qh ((kp3.block eb he2 ⟨heb3, fun h => hke h.symm⟩).trans EB2.out)
      have PB3 := qh ((kp3.block w.heap.size (by omega) ⟨by omega, by omega⟩).trans PB2.out)
      have KPX : Hid (Keep (fun b => b < base ∧ b ≠ kb ∧ b ≠ eb) wy u1) := qh (KPR.out.trans KP3.out (fun _ _ h => ⟨h.1, h.2.1⟩))
      have WP1 := qh (below_kp BWY.out KPX.out (by omega) (fun b hb => ⟨by omega, by omega, by omega⟩))
      clear HC3 kb3 on3 oe3 hd3 gi3 kp3 e0 e1 e2 e3
      obtain ⟨q0, q1, q2⟩ := box3P PB3.out
      have d1 := (WP1.out.cell (p := ⟨b, off + j * 2 + 1, none⟩) (cell_lt D1.out)).trans D1.out
      have RW : Hid (StRow (Fz base (fun b => (Value.slice eA1 (j + 1) ec1).ownBlock = some b ∨ (Value.slice nA1 (j + 1) nc1).ownBlock = some b) eb) u1 xA body) := qh (ROW.out.keep (fun q hq _ => WP1.out.cell hq) (fun b hb _ => ⟨by omega, .inl (by omega)⟩))
      have ZL : Hid (∀ b, ((Value.slice eA1 (j + 1) ec1).ownBlock = some b ∨ (Value.slice nA1 (j + 1) nc1).ownBlock = some b) → b < u1.heap.size) := qh (fun b h => h.elim (fun h => (OWE3.out.lt b h).2) (fun h => (OWN3.out.lt b h).2))
      have hpl : (pnames p.procs).length ≤ 1000 := by rw [pnames_len]; omega
      have hk3 := lt_of_block KB3.out
      go_wp2_with fail
      have hcl2 := spec_l08Stmts body xA xc u1 w eb p gA lA (some ⟨b, off, none⟩) gc lc pc iA n ic (insR (envP p) 0 (p.procs.take j)) base (fun b => (Value.slice eA1 (j + 1) ec1).ownBlock = some b ∨ (Value.slice nA1 (j + 1) nc1).ownBlock = some b) RW.out e4 e5 KD.out htb (by have := HL.out; omega) HP.out WP1.out hwP ⟨by omega, by omega, hpl⟩ heb3 (by omega) ZL.out EB3.out GI3.out
      refine hcl2.mono ?_
      clear hcl2
      rintro e u2 ⟨rfl, kp4, A2, n2, c2, cu2, hcu2, heb2, hgr2⟩
      have HC2 := qh hcu2
      have EB4 := qh heb2
      have GR4 := qh hgr2
      have KP4 := qh kp4
      have HL2 : Hid (cu2.length = n2) := qh (by obtain ⟨_, _, e, _, _⟩ := hgr2.slice; injection e with _ e; exact e.symm)
      have hz4 := kp4.size
      have hn2 : n2 ≤ 2000 := by
       have q1 := emSs_len (envP p) n body
       have q2 := HL2.out
       have q3 := HL.out
       rw [hcu2, List.length_append, q3] at q2
       omega
      clear hcu2 heb2 hgr2 kp4 q0 q1 q2 d1
      go_wp2_with fail
      have hcl3 := spec_l08Put u2 u2 eb gA lA (some ⟨b, off, none⟩) A2 none p.globals.length gc p.locks.length lc p.procs.length pc n2 c2 0 0 9 0 0 0 0 ⟨#[]⟩ cu2 ⟨9, 0, zeroTm, 0⟩ base (fun b => (Value.slice eA1 (j + 1) ec1).ownBlock = some b ∨ (Value.slice nA1 (j + 1) nc1).ownBlock = some b) NoB (Below.refl _ _) EB4.out GR4.out heb3 (by omega) (fun b h => Nat.lt_of_lt_of_le (ZL.out b h) hz4) (icP_zero _ 9 0 0 (i64_of (by omega) (by omega)) (i64_of (by omega) (by omega)) (i64_of (by omega) (by omega))) (fun b hb => hb.elim) (by omega)
      refine hcl3.mono ?_
      clear hcl3
      rintro e u3 ⟨rfl, A3, n3, c3, heb5, hn3, hgr5, kp5⟩
      have EB5 := qh heb5
      have GR5 := qh hgr5
      have KP5 : Hid (Keep (Fz base (fun b => (Value.slice eA1 (j + 1) ec1).ownBlock = some b ∨ (Value.slice nA1 (j + 1) nc1).ownBlock = some b) eb) u1 u3) := qh (KP4.out.trans kp5 (fun _ _ h => h))
      clear heb5 hn3 hgr5 kp5
      have RN : Hid (CoT wy u3 kb eb base gA1 lA1 gA lA (some ⟨b, off, none⟩) gc1 lc1 gc lc pc p (pnames (p.procs.take (j + 1))) (entR (envP p) 0 (p.procs.take (j + 1))) (insR (envP p) 0 (p.procs.take (j + 1)))) := qh (by
       have hnl : (pnames (p.procs.take (j + 1))).length = j + 1 := by rw [pnames_len, List.length_take]; omega
       have hel : (entR (envP p) 0 (p.procs.take (j + 1))).length = j + 1 := by rw [entR_len, List.length_take]; omega
       unfold CoT
       rw [hnl, hel]
       refine ⟨nA1, nc1, eA1, ec1, A3, n3, c3, (KP5.out.block kb hk3 ⟨hke, .inl hkb3⟩).trans KB3.out, EB5.out, ?_, ?_, fun b h e => HD3.out b e h, ?_, ?_⟩
       ·have h := OWN3.out.keep KP5.out (fun b hb => ⟨fun e => by have := (OWN3.out.lt b hb).1; omega, .inr (.inr hb)⟩)
        rw [HNM.out, List.map_append]
        exact h
       ·have h := OWE3.out.keep KP5.out (fun b hb => ⟨fun e => by have := (OWE3.out.lt b hb).1; omega, .inr (.inl hb)⟩)
        rw [List.take_succ_eq_append_getElem hlt, entR_snoc, Nat.zero_add, HL.out, List.map_append]
        exact h
       ·have h := GR5.out
        rw [HC2.out] at h
        rw [List.take_succ_eq_append_getElem hlt, insR_snoc, Nat.zero_add, HL.out, HBD.out]
        exact h.zsub (fun b _ _ h => h.symm)
       ·exact KPX.out.trans KP5.out (fun b _ h => ⟨h.2.2, .inl h.1⟩))
      go_wp2_with fail
      go_roundw
      case rel => exact ⟨j + 1, by omega, by go_num, RN⟩
      case measure => simp [intOf]; omega
   ·have e : j = p.procs.length := by omega
    subst e
    have HR2 := HR.out
    rw [List.take_length] at HR2
    obtain ⟨nA2, nc2, eA2, ec2, iA2, ic2, hkc, hec, hcd⟩ := CoT.code (CNY.out.keep (wy := wr) (base' := base) (fun b h1 h2 h3 => KPR.out.block b (by omega) ⟨by omega, h3, by omega⟩) (by omega)) HR2 hkb3 HF.out (pnames_size HP.out) hwb
    have CD := qh hcd
    have KC := qh hkc
    have EC := qh hec
    have hkl := lt_of_block KC.out
    have hrl := lt_of_block RBR.out
    obtain ⟨k0, k1, k2, k3, k4, -, -⟩ := box5 KC.out
    have g4 := (box5f KC.out).2.2.2.2
    obtain ⟨-, -, -, e3, -⟩ := box4 EC.out
    obtain ⟨y0, y1, y2, y3, y4, -, -⟩ := box5 RBR.out
    obtain ⟨f0, f1, f2, f3, f4⟩ := box5f RBR.out
    have hrk : ¬ w.heap.size + 1 = kb := by omega
    have hkr' : ¬ kb = w.heap.size + 1 := by omega
    clear hkc hec hcd HR HR2
    go_wp2_with fail
    have RZ := qh ((Below.heap_setCell wr ⟨kb, 4, none⟩ (.slice iA2 (insR (envP p) 0 p.procs).length ic2) (w.heap.size + 1) hrk).trans RBR.out)
    have RF := qh (s5_all RZ.out (.slice gA1 p.globals.length gc1) (.slice lA1 p.locks.length lc1) (.slice nA2 (pnames p.procs).length nc2) (.slice eA2 (entR (envP p) 0 p.procs).length ec2) (.slice iA2 (insR (envP p) 0 p.procs).length ic2))
    have FB := qh (five_below (BWR.out.setCell (p := ⟨kb, 4, none⟩) (by show w.heap.size ≤ kb; omega) (.slice iA2 (insR (envP p) 0 p.procs).length ic2)) (g := w.heap.size + 1) (by omega) (.slice gA1 p.globals.length gc1) (.slice lA1 p.locks.length lc1) (.slice nA2 (pnames p.procs).length nc2) (.slice eA2 (entR (envP p) 0 p.procs).length ec2) (.slice iA2 (insR (envP p) 0 p.procs).length ic2))
    have CF := qh ((CD.out.keep (w' := ((((((wr.setCell ⟨kb, 4, none⟩ (.slice iA2 (insR (envP p) 0 p.procs).length ic2)).setCell ⟨w.heap.size + 1, 0, none⟩ (.slice gA1 p.globals.length gc1)).setCell ⟨w.heap.size + 1, 1, none⟩ (.slice lA1 p.locks.length lc1)).setCell ⟨w.heap.size + 1, 2, none⟩ (.slice nA2 (pnames p.procs).length nc2)).setCell ⟨w.heap.size + 1, 3, none⟩ (.slice eA2 (entR (envP p) 0 p.procs).length ec2)).setCell ⟨w.heap.size + 1, 4, none⟩ (.slice iA2 (insR (envP p) 0 p.procs).length ic2))) fun b hb => (five_other (w := (wr.setCell ⟨kb, 4, none⟩ (.slice iA2 (insR (envP p) 0 p.procs).length ic2))) (g := w.heap.size + 1) (.slice gA1 p.globals.length gc1) (.slice lA1 p.locks.length lc1) (.slice nA2 (pnames p.procs).length nc2) (.slice eA2 (entR (envP p) 0 p.procs).length ec2) (.slice iA2 (insR (envP p) 0 p.procs).length ic2) b (by omega)).trans (Below.heap_setCell wr ⟨kb, 4, none⟩ _ b hb.2.2)).sub (F' := Made w ((((((wr.setCell ⟨kb, 4, none⟩ (.slice iA2 (insR (envP p) 0 p.procs).length ic2)).setCell ⟨w.heap.size + 1, 0, none⟩ (.slice gA1 p.globals.length gc1)).setCell ⟨w.heap.size + 1, 1, none⟩ (.slice lA1 p.locks.length lc1)).setCell ⟨w.heap.size + 1, 2, none⟩ (.slice nA2 (pnames p.procs).length nc2)).setCell ⟨w.heap.size + 1, 3, none⟩ (.slice eA2 (entR (envP p) 0 p.procs).length ec2)).setCell ⟨w.heap.size + 1, 4, none⟩ (.slice iA2 (insR (envP p) 0 p.procs).length ic2))) fun b hb => ⟨by omega, by simp; exact hb.2.1⟩)
    obtain ⟨z0, z1, z2, z3, z4, -, -⟩ := box5 RF.out
    exact bodyPost_ret (v := .tuple #[.agg #[.slice gA1 p.globals.length gc1, .slice lA1 p.locks.length lc1, .slice nA2 (pnames p.procs).length nc2, .slice eA2 (entR (envP p) 0 p.procs).length ec2, .slice iA2 (insR (envP p) 0 p.procs).length ic2], .bool true]) (by simp [results, Tryz.results7, go_sem, z0, z1, z2, z3, z4]) rfl ⟨⟨gA1, gc1, lA1, lc1, nA2, nc2, eA2, ec2, iA2, ic2⟩, rfl, CF.out, FB.out⟩
theorem spec_CodeOf (p : Pg) (x : V3) (w : World) (hp : PgIs w x p) (htot : totPg p ≤ 1048576) : Calls Tryz.prog 7 #[x.val p] w (RetCO w (codeR p)) := by
 by_cases hf : faultR p = 0
 ·exact spec_CodeOf_good p x w hp htot hf
 ·exact spec_CodeOf_bad p x w hp htot hf
end Go.Proofs.YtnmblfonmfjoeaaGreatDoor
