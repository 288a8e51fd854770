/- Lemmas for the row. -/
import Derived.Test.YtnmblfonmfjoeaaGreatDoorKc43
import Derived.Test.YtnmblfonmfjoeaaGreatDoorKc46
namespace Go.Proofs.YtnmblfonmfjoeaaGreatDoor
open Go.RowKit
set_option maxHeartbeats 12800000
set_option maxRecDepth 100000
set_option linter.unusedVariables false
theorem zero_cdO (w : World) (F : Nat → Prop) : CdO w F ⟨none, 0, none, 0, none, 0, none, 0, none, 0⟩ zeroCd :=
 ⟨fun _ _ => False, fun _ _ h => h.elim, fun _ _ _ _ h => h.elim, ⟨Nat.le_refl _, Nat.zero_le _, [], fun _ _ => False, RowO.nil _ _ _ _ _, fun i h => absurd h (by simp [zeroCd])⟩, ⟨Nat.le_refl _, Nat.zero_le _, [], fun _ _ => False, RowO.nil _ _ _ _ _, fun i h => absurd h (by simp [zeroCd])⟩, ⟨Nat.le_refl _, Nat.zero_le _, [], fun _ _ => False, RowO.nil _ _ _ _ _, fun i h => absurd h (by simp [zeroCd])⟩, ⟨Nat.le_refl _, Nat.zero_le _, [], fun _ _ => False, RowO.nil _ _ _ _ _, fun i h => absurd h (by simp [zeroCd])⟩, ⟨Nat.le_refl _, Nat.zero_le _, [], fun _ _ => False, RowO.nil _ _ _ _ _, fun i h => absurd h (by simp [zeroCd])⟩⟩
theorem impl_CodeOf_bad (p : Pg) (x : V3) (w : World) (hp : PgIs w x p) (htot : totPg p ≤ 1048576) (hf : ¬ faultR p = 0) :
  Calls Tryz.prog 6 #[x.val p] w (RetCO w (codeR p)) := by
 rw [codeR_bad hf]
 obtain ⟨gA, gc, lA, lc, pA, pc⟩ := x
 unfold V3.val
 have HP := qh hp
 have hne : (faultR p != 0) = true := by simp [hf]
 clear hp hf
 go_enter Tryz.func6, Tryz.ntmps6
 go_wp2_with fail
 refine (impl_ProgFault p ⟨gA, gc, lA, lc, pA, pc⟩ _ (HP.out.belowA zB) htot).mono ?_
 rintro e w1 ⟨rfl, b1⟩
 have B1 : Hid (Below w.heap.size w w1) := qh (Below.trans (zB : Below w.heap.size w ((w.alloc (.cells #[.slice gA p.globals.length gc, .slice lA p.locks.length lc, .slice pA p.procs.length pc] 27)).alloc (.cells #[.slice none 0 0, .slice none 0 0, .slice none 0 0, .slice none 0 0, .slice none 0 0] 32))) (b1.mono (by simp; omega)))
 have RB : Hid (w1.heap[(w.heap.size + 1)]? = some (.cells #[.slice none 0 0, .slice none 0 0, .slice none 0 0, .slice none 0 0, .slice none 0 0] 32 (0, 0))) := qh ((b1.block (w.heap.size + 1) (by simp)).trans (by have := heap_alloc_new (w.alloc (.cells #[.slice gA p.globals.length gc, .slice lA p.locks.length lc, .slice pA p.procs.length pc] 27)) (.cells #[.slice none 0 0, .slice none 0 0, .slice none 0 0, .slice none 0 0, .slice none 0 0] 32); simpa using this))
 obtain ⟨y0, y1, y2, y3, y4, -, -⟩ := box5 RB.out
 obtain ⟨f0, f1, f2, f3, f4⟩ := box5f RB.out
 have hz := b1.size
 simp only [World.size_alloc] at hz
 clear b1
 go_wp2_with fail
 have FB : Hid (Below w.heap.size w (((((w1.setCell ⟨w.heap.size + 1, 0, none⟩ (.slice none 0 0)).setCell ⟨w.heap.size + 1, 1, none⟩ (.slice none 0 0)).setCell ⟨w.heap.size + 1, 2, none⟩ (.slice none 0 0)).setCell ⟨w.heap.size + 1, 3, none⟩ (.slice none 0 0)).setCell ⟨w.heap.size + 1, 4, none⟩ (.slice none 0 0))) := qh (five_below B1.out (by omega) _ _ _ _ _)
 have RF := qh (s5_all RB.out (.slice none 0 0) (.slice none 0 0) (.slice none 0 0) (.slice none 0 0) (.slice none 0 0))
 obtain ⟨z0, z1, z2, z3, z4, -, -⟩ := box5 RF.out
 exact bodyPost_ret (v := .tuple #[.agg #[.slice none 0 0, .slice none 0 0, .slice none 0 0, .slice none 0 0, .slice none 0 0], .bool false]) (by simp [results, Tryz.results6, go_sem, z0, z1, z2, z3, z4]) rfl ⟨⟨none, 0, none, 0, none, 0, none, 0, none, 0⟩, rfl, zero_cdO _ _, FB.out⟩
theorem impl_CodeOf_good (p : Pg) (x : V3) (w : World) (hp : PgIs w x p) (htot : totPg p ≤ 1048576) (hf : faultR p = 0) :
  Calls Tryz.prog 6 #[x.val p] w (RetCO w (codeR p)) := by
 rw [codeR_good hf]
 obtain ⟨gA, gc, lA, lc, pA, pc⟩ := x
 unfold V3.val
 have HP := qh hp
 have HF := qh hf
 have hne : (faultR p != 0) = false := by simp [hf]
 obtain ⟨hg6, hl6, hp8, hq⟩ := fault_facts hf
 have HQ := qh hq
 have hcap := hp.p2
 have hcl := hp.p1
 simp only at hcap hcl
 unfold maxLen at hcap
 clear hp hf hq
 go_enter Tryz.func6, Tryz.ntmps6
 go_wp2_with fail
 refine (impl_ProgFault p ⟨gA, gc, lA, lc, pA, pc⟩ _ (HP.out.belowA zB) htot).mono ?_
 rintro e w1 ⟨rfl, b1⟩
 have B1 : Hid (Below w.heap.size w w1) := qh (Below.trans (zB : Below w.heap.size w ((w.alloc (.cells #[.slice gA p.globals.length gc, .slice lA p.locks.length lc, .slice pA p.procs.length pc] 27)).alloc (.cells #[.slice none 0 0, .slice none 0 0, .slice none 0 0, .slice none 0 0, .slice none 0 0] 32))) (b1.mono (by simp; omega)))
 have RB : Hid (w1.heap[(w.heap.size + 1)]? = some (.cells #[.slice none 0 0, .slice none 0 0, .slice none 0 0, .slice none 0 0, .slice none 0 0] 32 (0, 0))) := qh ((b1.block (w.heap.size + 1) (by simp)).trans (by have := heap_alloc_new (w.alloc (.cells #[.slice gA p.globals.length gc, .slice lA p.locks.length lc, .slice pA p.procs.length pc] 27)) (.cells #[.slice none 0 0, .slice none 0 0, .slice none 0 0, .slice none 0 0, .slice none 0 0] 32); simpa using this))
 have PB : Hid (w1.heap[w.heap.size]? = some (.cells #[.slice gA p.globals.length gc, .slice lA p.locks.length lc, .slice pA p.procs.length pc] 27 (0, 0))) := qh ((b1.block w.heap.size (by simp; omega)).trans ((heap_alloc_lt (by simp)).trans (heap_alloc_new _ _)))
 have hz1 := b1.size
 simp only [World.size_alloc] at hz1
 have P1 := qh (HP.out.belowA B1.out)
 clear b1
 obtain ⟨q0, q1, q2⟩ := box3P PB.out
 have hpb1 : w.heap.size < w1.heap.size := by omega
 go_upto_region 3 with fail
 go_cut [4] from 5 to 45 (fun v4 wx => ∃ kb gA1 lA1 pA1 gc1 lc1 pc1, v4 = .pointer (some ⟨kb, 0, none⟩) ∧ Hid (CoN w1 wx kb wx.heap.size gA1 lA1 pA1 gc1 lc1 pc1 p ∧ w1.heap.size ≤ kb ∧ kb < wx.heap.size ∧ Below w1.heap.size w1 wx ∧ wx.heap[kb]? = some (.cells #[.slice gA1 p.globals.length gc1, .slice lA1 p.locks.length lc1, .slice pA1 (pnames p.procs).length pc1, .slice none 0 0, .slice none 0 0] 32 (0, 0))))
 case first =>
  have hg5 : p.globals.length ≤ 100000 := by omega
  have hl5 : p.locks.length ≤ 100000 := by omega
  have hp5 : p.procs.length ≤ 100000 := by omega
  have hSD := sp3_of q0 q1 q2 hpb1 (Below.refl w1.heap.size w1).drew
  refine wp_region_noPanic ?_
  refine wp_region_sk (fun w' => w'.cell? ⟨w.heap.size, 0, none⟩ = some (.slice gA p.globals.length gc) ∧ w'.cell? ⟨w.heap.size, 1, none⟩ = some (.slice lA p.locks.length lc) ∧ w'.cell? ⟨w.heap.size, 2, none⟩ = some (.slice pA p.procs.length pc) ∧ Below w1.heap.size w1 w') 10 (by kernel_rfl) hSD (fun hHeld => ?_)
  obtain ⟨u0, hu0⟩ : ∃ u, w1.drew = u := ⟨_, rfl⟩
  have hsu0 : w1.heap.size ≤ u0.heap.size := by rw [← hu0]; exact Nat.le_refl _
  rw [hu0] at hHeld hSD ⊢
  clear hu0
  have Bu0 : Hid (Below w1.heap.size w1 u0) := qh hHeld.2.2.2
  clear hSD
  refine skT 0 ?_
  refine skT 1 ?_
  refine skT 3 ?_
  refine skT 4 ?_
  refine skT 6 ?_
  refine wpSk_or2 (i := 2) (j := 9) (by kernel_rfl) rfl rfl (fun K hK => ?_) (fun K hK => ?_)
  ·go_simp
   refine (cloneG_at p ⟨gA, gc, lA, lc, pA, pc⟩ u0 (P1.out.belowA Bu0.out) hg5).mono ?_
   rintro e u1 ⟨gA1, gc1, loG, rfl, hcG, hloG, hhiG, RG, bu1⟩
   have hsau1 := bu1.size
   have Bu1 : Hid (Below w1.heap.size w1 u1) := qh (below_then Bu0.out bu1)
   refine hK.out _ _ (fun _ => sp3_of q0 q1 q2 hpb1 Bu1.out) ?_
   clear hK K hHeld
   have CG : Hid (Below u1.heap.size u1 u1) := qh (Below.refl _ _)
   clear bu1
   have hHeld := sp3_of q0 q1 q2 hpb1 Bu1.out
   try simp only [Act.put, layS, layZ, layC]
   refine wpSk_or2 (i := 5) (j := 9) (by kernel_rfl) rfl rfl (fun K hK => ?_) (fun K hK => ?_)
   ·go_simp
    refine (cloneL_at p ⟨gA, gc, lA, lc, pA, pc⟩ u1 (P1.out.belowA Bu1.out) hl5).mono ?_
    rintro e u2 ⟨lA1, lc1, loL, rfl, hcL, hloL, hhiL, RL, bu2⟩
    have hsau2 := bu2.size
    have Bu2 : Hid (Below w1.heap.size w1 u2) := qh (below_then Bu1.out bu2)
    refine hK.out _ _ (fun _ => sp3_of q0 q1 q2 hpb1 Bu2.out) ?_
    clear hK K hHeld
    replace CG := qh (below_then CG.out bu2)
    have CL : Hid (Below u2.heap.size u2 u2) := qh (Below.refl _ _)
    clear bu2
    have hHeld := sp3_of q0 q1 q2 hpb1 Bu2.out
    try simp only [Act.put, layS, layZ, layC]
    refine wpSk_or2 (i := 7) (j := 9) (by kernel_rfl) rfl rfl (fun K hK => ?_) (fun K hK => ?_)
    ·go_simp
     refine (names_at p ⟨gA, gc, lA, lc, pA, pc⟩ u2 (P1.out.belowA Bu2.out) hp5).mono ?_
     rintro e u3 ⟨pA1, pc1, loN, rfl, hcN, hloN, hhiN, RN, bu3⟩
     have hsau3 := bu3.size
     have Bu3 : Hid (Below w1.heap.size w1 u3) := qh (below_then Bu2.out bu3)
     refine hK.out _ _ (fun _ => sp3_of q0 q1 q2 hpb1 Bu3.out) ?_
     clear hK K hHeld
     replace CG := qh (below_then CG.out bu3)
     replace CL := qh (below_then CL.out bu3)
     have CN : Hid (Below u3.heap.size u3 u3) := qh (Below.refl _ _)
     clear bu3
     have hHeld := sp3_of q0 q1 q2 hpb1 Bu3.out
     try simp only [Act.put, layS, layZ, layC]
     refine skT 8 ?_
     refine wpSk_step (i := 9) (by kernel_rfl) rfl (fun K hK => ?_)
     go_simp
     refine hK.out _ _ (fun _ => sp3_of q0 q1 q2 hpb1 (Bu3.out.alloc (by omega) _)) ?_
     clear hK K hHeld
     obtain ⟨u4, hvu4⟩ : ∃ x, u3.alloc (.cells #[.slice none 0 0, .slice none 0 0, .slice none 0 0, .slice none 0 0, .slice none 0 0] 32) = x := ⟨_, rfl⟩
     rw [hvu4]
     obtain ⟨hkb', bu4, hsau4, hsbu4⟩ := alloc_facts hvu4
     clear hvu4
     have Bu4 : Hid (Below w1.heap.size w1 u4) := qh (below_then Bu3.out bu4)
     replace CG := qh (below_then CG.out bu4)
     replace CL := qh (below_then CL.out bu4)
     replace CN := qh (below_then CN.out bu4)
     have Hkb := qh hkb'
     clear hkb'
     clear bu4
     have hHeld := sp3_of q0 q1 q2 hpb1 Bu4.out
     try simp only [Act.put, layS, layZ, layC]
     clear hHeld
     obtain ⟨y0, y1, y2, y3, y4, -, -⟩ := box5 Hkb.out
     obtain ⟨fz0, fz1, fz2, fz3, fz4⟩ := box5f Hkb.out
     have hkl := lt_of_block Hkb.out
     have sG := CG.out.size
     have sL := CL.out.size
     have sN := CN.out.size
     refine wpSk_step (i := 10) (by kernel_rfl) rfl (fun K hK => ?_)
     go_simp
     refine hK.out _ _ (fun h => absurd h (by decide)) ?_
     clear hK K
     refine wpSk_done (by kernel_rfl) ?_ _
     refine NoPanic.normal ?_
     go_wp2_with fail
     go_meet
     exact ⟨u3.heap.size, gA1, lA1, pA1, gc1, lc1, pc1, rfl, qh (con_done rfl hcG hcL hcN RG.out RL.out RN.out CG.out CL.out CN.out Hkb.out Bu4.out (by omega) (by omega) (by omega) (by omega) (by omega) (by omega) (by omega) (by omega) (by omega) (by omega))⟩
    ·go_simp
     refine hK.out _ _ (fun _ => sp3_of q0 q1 q2 hpb1 (Bu2.out.alloc (by omega) _)) ?_
     clear hK K hHeld
     obtain ⟨u3, hvu3⟩ : ∃ x, u2.alloc (.cells #[.slice none 0 0, .slice none 0 0, .slice none 0 0, .slice none 0 0, .slice none 0 0] 32) = x := ⟨_, rfl⟩
     rw [hvu3]
     obtain ⟨hkb', bu3, hsau3, hsbu3⟩ := alloc_facts hvu3
     clear hvu3
     have Bu3 : Hid (Below w1.heap.size w1 u3) := qh (below_then Bu2.out bu3)
     replace CG := qh (below_then CG.out bu3)
     replace CL := qh (below_then CL.out bu3)
     have Hkb := qh hkb'
     clear hkb'
     clear bu3
     have hHeld := sp3_of q0 q1 q2 hpb1 Bu3.out
     try simp only [Act.put, layS, layZ, layC]
     refine wpSk_step (i := 7) (by kernel_rfl) rfl (fun K hK => ?_)
     go_simp
     refine (names_at p ⟨gA, gc, lA, lc, pA, pc⟩ u3 (P1.out.belowA Bu3.out) hp5).mono ?_
     rintro e u4 ⟨pA1, pc1, loN, rfl, hcN, hloN, hhiN, RN, bu4⟩
     have hsau4 := bu4.size
     have Bu4 : Hid (Below w1.heap.size w1 u4) := qh (below_then Bu3.out bu4)
     refine hK.out _ _ (fun _ => sp3_of q0 q1 q2 hpb1 Bu4.out) ?_
     clear hK K hHeld
     replace Hkb := qh ((bu4.block _ (lt_of_block Hkb.out)).trans Hkb.out)
     replace CG := qh (below_then CG.out bu4)
     replace CL := qh (below_then CL.out bu4)
     have CN : Hid (Below u4.heap.size u4 u4) := qh (Below.refl _ _)
     clear bu4
     have hHeld := sp3_of q0 q1 q2 hpb1 Bu4.out
     try simp only [Act.put, layS, layZ, layC]
     refine skT 8 ?_
     clear hHeld
     obtain ⟨y0, y1, y2, y3, y4, -, -⟩ := box5 Hkb.out
     obtain ⟨fz0, fz1, fz2, fz3, fz4⟩ := box5f Hkb.out
     have hkl := lt_of_block Hkb.out
     have sG := CG.out.size
     have sL := CL.out.size
     have sN := CN.out.size
     refine wpSk_step (i := 10) (by kernel_rfl) rfl (fun K hK => ?_)
     go_simp
     refine hK.out _ _ (fun h => absurd h (by decide)) ?_
     clear hK K
     refine wpSk_done (by kernel_rfl) ?_ _
     refine NoPanic.normal ?_
     go_wp2_with fail
     go_meet
     exact ⟨u2.heap.size, gA1, lA1, pA1, gc1, lc1, pc1, rfl, qh (con_done rfl hcG hcL hcN RG.out RL.out RN.out CG.out CL.out CN.out Hkb.out Bu4.out (by omega) (by omega) (by omega) (by omega) (by omega) (by omega) (by omega) (by omega) (by omega) (by omega))⟩
   ·go_simp
    refine hK.out _ _ (fun _ => sp3_of q0 q1 q2 hpb1 (Bu1.out.alloc (by omega) _)) ?_
    clear hK K hHeld
    obtain ⟨u2, hvu2⟩ : ∃ x, u1.alloc (.cells #[.slice none 0 0, .slice none 0 0, .slice none 0 0, .slice none 0 0, .slice none 0 0] 32) = x := ⟨_, rfl⟩
    rw [hvu2]
    obtain ⟨hkb', bu2, hsau2, hsbu2⟩ := alloc_facts hvu2
    clear hvu2
    have Bu2 : Hid (Below w1.heap.size w1 u2) := qh (below_then Bu1.out bu2)
    replace CG := qh (below_then CG.out bu2)
    have Hkb := qh hkb'
    clear hkb'
    clear bu2
    have hHeld := sp3_of q0 q1 q2 hpb1 Bu2.out
    try simp only [Act.put, layS, layZ, layC]
    refine wpSk_step (i := 5) (by kernel_rfl) rfl (fun K hK => ?_)
    go_simp
    refine (cloneL_at p ⟨gA, gc, lA, lc, pA, pc⟩ u2 (P1.out.belowA Bu2.out) hl5).mono ?_
    rintro e u3 ⟨lA1, lc1, loL, rfl, hcL, hloL, hhiL, RL, bu3⟩
    have hsau3 := bu3.size
    have Bu3 : Hid (Below w1.heap.size w1 u3) := qh (below_then Bu2.out bu3)
    refine hK.out _ _ (fun _ => sp3_of q0 q1 q2 hpb1 Bu3.out) ?_
    clear hK K hHeld
    replace Hkb := qh ((bu3.block _ (lt_of_block Hkb.out)).trans Hkb.out)
    replace CG := qh (below_then CG.out bu3)
    have CL : Hid (Below u3.heap.size u3 u3) := qh (Below.refl _ _)
    clear bu3
    have hHeld := sp3_of q0 q1 q2 hpb1 Bu3.out
    try simp only [Act.put, layS, layZ, layC]
    refine wpSk_step (i := 7) (by kernel_rfl) rfl (fun K hK => ?_)
    go_simp
    refine (names_at p ⟨gA, gc, lA, lc, pA, pc⟩ u3 (P1.out.belowA Bu3.out) hp5).mono ?_
    rintro e u4 ⟨pA1, pc1, loN, rfl, hcN, hloN, hhiN, RN, bu4⟩
    have hsau4 := bu4.size
    have Bu4 : Hid (Below w1.heap.size w1 u4) := qh (below_then Bu3.out bu4)
    refine hK.out _ _ (fun _ => sp3_of q0 q1 q2 hpb1 Bu4.out) ?_
    clear hK K hHeld
    replace Hkb := qh ((bu4.block _ (lt_of_block Hkb.out)).trans Hkb.out)
    replace CG := qh (below_then CG.out bu4)
    replace CL := qh (below_then CL.out bu4)
    have CN : Hid (Below u4.heap.size u4 u4) := qh (Below.refl _ _)
    clear bu4
    have hHeld := sp3_of q0 q1 q2 hpb1 Bu4.out
    try simp only [Act.put, layS, layZ, layC]
    refine skT 8 ?_
    clear hHeld
    obtain ⟨y0, y1, y2, y3, y4, -, -⟩ := box5 Hkb.out
    obtain ⟨fz0, fz1, fz2, fz3, fz4⟩ := box5f Hkb.out
    have hkl := lt_of_block Hkb.out
    have sG := CG.out.size
    have sL := CL.out.size
    have sN := CN.out.size
    refine wpSk_step (i := 10) (by kernel_rfl) rfl (fun K hK => ?_)
    go_simp
    refine hK.out _ _ (fun h => absurd h (by decide)) ?_
    clear hK K
    refine wpSk_done (by kernel_rfl) ?_ _
    refine NoPanic.normal ?_
    go_wp2_with fail
    go_meet
    exact ⟨u1.heap.size, gA1, lA1, pA1, gc1, lc1, pc1, rfl, qh (con_done rfl hcG hcL hcN RG.out RL.out RN.out CG.out CL.out CN.out Hkb.out Bu4.out (by omega) (by omega) (by omega) (by omega) (by omega) (by omega) (by omega) (by omega) (by omega) (by omega))⟩
  ·go_simp
   refine hK.out _ _ (fun _ => sp3_of q0 q1 q2 hpb1 (Bu0.out.alloc (by omega) _)) ?_
   clear hK K hHeld
   obtain ⟨u1, hvu1⟩ : ∃ x, u0.alloc (.cells #[.slice none 0 0, .slice none 0 0, .slice none 0 0, .slice none 0 0, .slice none 0 0] 32) = x := ⟨_, rfl⟩
   rw [hvu1]
   obtain ⟨hkb', bu1, hsau1, hsbu1⟩ := alloc_facts hvu1
   clear hvu1
   have Bu1 : Hid (Below w1.heap.size w1 u1) := qh (below_then Bu0.out bu1)
   have Hkb := qh hkb'
   clear hkb'
   clear bu1
   have hHeld := sp3_of q0 q1 q2 hpb1 Bu1.out
   try simp only [Act.put, layS, layZ, layC]
   refine wpSk_step (i := 2) (by kernel_rfl) rfl (fun K hK => ?_)
   go_simp
   refine (cloneG_at p ⟨gA, gc, lA, lc, pA, pc⟩ u1 (P1.out.belowA Bu1.out) hg5).mono ?_
   rintro e u2 ⟨gA1, gc1, loG, rfl, hcG, hloG, hhiG, RG, bu2⟩
   have hsau2 := bu2.size
   have Bu2 : Hid (Below w1.heap.size w1 u2) := qh (below_then Bu1.out bu2)
   refine hK.out _ _ (fun _ => sp3_of q0 q1 q2 hpb1 Bu2.out) ?_
   clear hK K hHeld
   replace Hkb := qh ((bu2.block _ (lt_of_block Hkb.out)).trans Hkb.out)
   have CG : Hid (Below u2.heap.size u2 u2) := qh (Below.refl _ _)
   clear bu2
   have hHeld := sp3_of q0 q1 q2 hpb1 Bu2.out
   try simp only [Act.put, layS, layZ, layC]
   refine wpSk_step (i := 5) (by kernel_rfl) rfl (fun K hK => ?_)
   go_simp
   refine (cloneL_at p ⟨gA, gc, lA, lc, pA, pc⟩ u2 (P1.out.belowA Bu2.out) hl5).mono ?_
   rintro e u3 ⟨lA1, lc1, loL, rfl, hcL, hloL, hhiL, RL, bu3⟩
   have hsau3 := bu3.size
   have Bu3 : Hid (Below w1.heap.size w1 u3) := qh (below_then Bu2.out bu3)
   refine hK.out _ _ (fun _ => sp3_of q0 q1 q2 hpb1 Bu3.out) ?_
   clear hK K hHeld
   replace Hkb := qh ((bu3.block _ (lt_of_block Hkb.out)).trans Hkb.out)
   replace CG := qh (below_then CG.out bu3)
   have CL : Hid (Below u3.heap.size u3 u3) := qh (Below.refl _ _)
   clear bu3
   have hHeld := sp3_of q0 q1 q2 hpb1 Bu3.out
   try simp only [Act.put, layS, layZ, layC]
   refine wpSk_step (i := 7) (by kernel_rfl) rfl (fun K hK => ?_)
   go_simp
   refine (names_at p ⟨gA, gc, lA, lc, pA, pc⟩ u3 (P1.out.belowA Bu3.out) hp5).mono ?_
   rintro e u4 ⟨pA1, pc1, loN, rfl, hcN, hloN, hhiN, RN, bu4⟩
   have hsau4 := bu4.size
   have Bu4 : Hid (Below w1.heap.size w1 u4) := qh (below_then Bu3.out bu4)
   refine hK.out _ _ (fun _ => sp3_of q0 q1 q2 hpb1 Bu4.out) ?_
   clear hK K hHeld
   replace Hkb := qh ((bu4.block _ (lt_of_block Hkb.out)).trans Hkb.out)
   replace CG := qh (below_then CG.out bu4)
   replace CL := qh (below_then CL.out bu4)
   have CN : Hid (Below u4.heap.size u4 u4) := qh (Below.refl _ _)
   clear bu4
   have hHeld := sp3_of q0 q1 q2 hpb1 Bu4.out
   try simp only [Act.put, layS, layZ, layC]
   refine skT 8 ?_
   clear hHeld
   obtain ⟨y0, y1, y2, y3, y4, -, -⟩ := box5 Hkb.out
   obtain ⟨fz0, fz1, fz2, fz3, fz4⟩ := box5f Hkb.out
   have hkl := lt_of_block Hkb.out
   have sG := CG.out.size
   have sL := CL.out.size
   have sN := CN.out.size
   refine wpSk_step (i := 10) (by kernel_rfl) rfl (fun K hK => ?_)
   go_simp
   refine hK.out _ _ (fun h => absurd h (by decide)) ?_
   clear hK K
   refine wpSk_done (by kernel_rfl) ?_ _
   refine NoPanic.normal ?_
   go_wp2_with fail
   go_meet
   exact ⟨u0.heap.size, gA1, lA1, pA1, gc1, lc1, pc1, rfl, qh (con_done rfl hcG hcL hcN RG.out RL.out RN.out CG.out CL.out CN.out Hkb.out Bu4.out (by omega) (by omega) (by omega) (by omega) (by omega) (by omega) (by omega) (by omega) (by omega) (by omega))⟩
 case rest =>
  rename World => wx
  obtain ⟨kb, gA1, lA1, pA1, gc1, lc1, pc1, rfl, HC⟩ := hcut
  obtain ⟨hcon, hkb1, hkb2, hbx, hkbx⟩ := HC.out
  have CN := qh hcon
  have BX := qh hbx
  have KBX := qh hkbx
  have PBX := qh ((hbx.block w.heap.size hpb1).trans PB.out)
  have RBX := qh ((hbx.block (w.heap.size + 1) (by omega)).trans RB.out)
  have BW := qh (below_then B1.out hbx)
  have hzx := hbx.size
  clear HC hcon hbx hkbx q0 q1 q2 PB RB
  obtain ⟨base, hbs⟩ : ∃ n, wx.heap.size = n := ⟨_, rfl⟩
  have hb1 : wx.heap.size ≤ base := by omega
  have hb2 : base ≤ wx.heap.size := by omega
  rw [hbs] at CN
  have hkb3 : kb < base := by omega
  clear hbs
  obtain ⟨q0, q1, q2⟩ := box3P PBX.out
  go_wp2_with fail
  go_loopw [23] (fun i wr => ∃ j : Nat, j ≤ p.procs.length ∧ i = .int .i64 j ∧ Hid (CoS wx wr kb base gA1 lA1 pA1 gc1 lc1 pc1 p 32 j)) (fun i _ => p.procs.length - (intOf i).toNat)
  case atStart => exact ⟨0, Nat.zero_le _, rfl, qh (coS_zero KBX.out hb2)⟩
  case round =>
   rename World => wr
   obtain ⟨j, hj, rfl, HR⟩ := hrel
   obtain ⟨eA, ec, iA, n, ic, kbr, ow, gi, kp⟩ := HR.out
   have KBR := qh kbr
   have OWR := qh ow
   have GIR := qh gi
   have KPR := qh kp
   have hzr := kp.size
   have BWR := qh (below_kp BW.out kp (by omega) (fun b hb => ⟨by omega, by omega⟩))
   have RBR := qh ((kp.block (w.heap.size + 1) (by omega) ⟨by omega, by omega⟩).trans RBX.out)
   have HL : Hid ((insR (envP p) 0 (p.procs.take j)).length = n) := qh (by obtain ⟨_, _, e, _, _⟩ := gi.slice; injection e with _ e; exact e.symm)
   have hn0 : n ≤ 121 * 8 := by
    have h1 := insR_len (envP p) (p.procs.take j) 0 (fun q hq => (HQ.out q (List.mem_of_mem_take hq)).2)
    have h2 : (p.procs.take j).length ≤ 8 := by rw [List.length_take]; omega
    have h3 := HL.out
    omega
   clear kbr ow gi kp q0 q1 q2
   by_cases hlt : j < p.procs.length
   ·obtain ⟨b, off, x, hA, d0', d1', hpr⟩ := rd_proc HP.out.p3 hlt
    have d0 := (BWR.out.cell (p := ⟨b, off + j * 2, none⟩) (cell_lt d0')).trans d0'
    have d1 := (BWR.out.cell (p := ⟨b, off + j * 2 + 1, none⟩) (cell_lt d1')).trans d1'
    obtain ⟨xs, xA, xm, xc⟩ := x
    obtain ⟨e1, e2, e3, e4, e5, row⟩ := hpr
    simp only at hA d0 d1 e1 e2 e3 e4 e5 row
    subst hA e2
    obtain ⟨hkd, hsn⟩ := HQ.out _ (List.getElem_mem hlt)
    have htb := tot_body hlt htot
    have hlb := cell_lt d0
    have ROW := qh row
    have KD := qh hkd
    generalize hBD : p.procs[j].body = body at *
    have HBD := qh hBD
    clear row hkd hBD e1 d0' d1'
    obtain ⟨u0, hu0⟩ : ∃ u, wr.alloc (.cells #[.string xs, .slice xA body.length xc] 40) = u := ⟨_, rfl⟩
    have B0 : Hid (Below wr.heap.size wr u0) := qh (by rw [← hu0]; exact Below.alloc (Below.refl _ _) (Nat.le_refl _) _)
    have SB0 : Hid (u0.heap[wr.heap.size]? = some (.cells #[.string xs, .slice xA body.length xc] 40 (0, 0))) := qh (by rw [← hu0]; exact heap_alloc_new _ _)
    have KB0 := qh ((B0.out.block kb (by omega)).trans KBR.out)
    have OW0 := qh (OWR.out.keep (Keep.of_below (S := fun _ => True) B0.out) (fun _ _ => trivial))
    have OWe := qh OW0.out.own
    have GI0 := qh (GIR.out.below IcP.keepP B0.out)
    have hz0 : wr.heap.size < u0.heap.size := lt_of_block SB0.out
    obtain ⟨k0, k1, k2, k3, k4, f3, f4⟩ := box5 KB0.out
    obtain ⟨s0, s1⟩ := box2P SB0.out
    have t1 : j + 1 ≤ maxLen := by unfold maxLen; omega
    have t2 : (j + 1) * 8 ≤ 140737488355328 := by omega
    have hkl : kb < u0.heap.size := by omega
    go_wp2_with (at_builtin; refine wpList_appG_new u0.heap.size rfl rfl _ _ _ rfl intT OWe.out _ 1 rfl rfl rfl (by simp [Value.oneCell']) t1 t2 ?_; intro v7 w7 own7 gr7; have hne : ∀ b, b < wr.heap.size → b < base → (Value.slice eA j ec).ownBlock ≠ some b := (fun b _ hb e => by have := (OW0.out.lt b e).1; omega); have KZ := qh ((gr7.keep.block kb hkl (hne kb (by omega) hkb3)).trans KB0.out); have hns : (Value.slice eA j ec).ownBlock ≠ some wr.heap.size := (fun e => by have := (OWR.out.lt _ e).2; omega); have SZ := qh ((gr7.keep.block wr.heap.size hz0 hns).trans SB0.out); obtain ⟨y0, y1, y2, y3, y4, g3, g4⟩ := box5 KZ.out; obtain ⟨z0, z1⟩ := box2P SZ.out; have hy := lt_of_block KZ.out; obtain ⟨eA1, ec1, rfl, _⟩ := own7.slice; have OWN := qh own7; have GR := qh gr7; have hnks : ¬ kb = wr.heap.size := (by omega); clear own7 gr7 hne hns)
    obtain ⟨kb1, ow1, gi1, kp1⟩ := ent_app OW0.out GI0.out hkb3 KB0.out OWN.out GR.out
    obtain ⟨u1, hu1⟩ : ∃ u, w7.setCell ⟨kb, 3, none⟩ (.slice eA1 (j + 1) ec1) = u := ⟨_, rfl⟩
    rw [hu1] at kb1 ow1 gi1 kp1 ⊢
    have KB1 := qh kb1
    have OW1 := qh ow1
    have GI1 := qh gi1
    have KP1 : Hid (Keep (fun b => b < base ∧ b ≠ kb) wr u1) := qh ((Keep.of_below (S := fun b => b < base ∧ b ≠ kb) B0.out).trans kp1 (fun _ _ h => h))
    have KPX : Hid (Keep (fun b => b < base ∧ b ≠ kb) wx u1) := qh (KPR.out.trans KP1.out (fun _ _ h => h))
    have hz1' := KP1.out.size
    clear kb1 ow1 gi1 kp1 hu1 hu0 k0 k1 k2 k3 k4 f3 f4 s0 s1 y0 y1 y2 y3 y4 g3 g4 z0 z1 hy hz0 d0 d1 t1 t2
    have ZL : Hid (∀ b, (Value.slice eA1 (j + 1) ec1).ownBlock = some b → b < u1.heap.size) := qh (fun b h => (OW1.out.lt b h).2)
    have CN1 := qh (CN.out.keep (wy := u1) fun b h1 h2 h3 => KPX.out.block b (by omega) ⟨h2, h3⟩)
    obtain ⟨ca, cb, cc, H, h1, h2, r0, r1, r2⟩ := CN1.out
    have SG := qh (strsF_of (F := Fz base (fun b => (Value.slice eA1 (j + 1) ec1).ownBlock = some b) kb) r0 ca.1 ca.2 (fun b _ hb => ⟨(h1 0 b hb).2.2, .inl (h1 0 b hb).2.1⟩))
    have SL := qh (strsF_of (F := Fz base (fun b => (Value.slice eA1 (j + 1) ec1).ownBlock = some b) kb) r1 cb.1 cb.2 (fun b _ hb => ⟨(h1 1 b hb).2.2, .inl (h1 1 b hb).2.1⟩))
    have SP := qh (strsF_of (F := Fz base (fun b => (Value.slice eA1 (j + 1) ec1).ownBlock = some b) kb) r2 cc.1 cc.2 (fun b _ hb => ⟨(h1 2 b hb).2.2, .inl (h1 2 b hb).2.1⟩))
    clear ca cb cc h1 h2 r0 r1 r2
    have WP1 := qh (below_kp BW.out KPX.out (by omega) (fun b hb => ⟨by omega, by omega⟩))
    have RW : Hid (StRow (Fz base (fun b => (Value.slice eA1 (j + 1) ec1).ownBlock = some b) kb) u1 xA body) := qh (ROW.out.keep (fun q hq _ => WP1.out.cell hq) (fun b hb _ => ⟨by omega, .inl (by omega)⟩))
    have hpl : (pnames p.procs).length ≤ 1000 := by rw [pnames_len]; omega
    have hcl2 := impl_addStmts body xA xc u1 kb (envP p) gA1 lA1 pA1 eA1 gc1 lc1 pc1 (j + 1) ec1 iA n ic (insR (envP p) 0 (p.procs.take j)) base (fun b => (Value.slice eA1 (j + 1) ec1).ownBlock = some b) RW.out e4 e5 KD.out htb (by have := HL.out; omega) ⟨SG.out, SL.out, SP.out⟩ ⟨by show p.globals.length ≤ 1000; omega, by show p.locks.length ≤ 1000; omega, hpl⟩ hkb3 (by omega) ZL.out KB1.out GI1.out
    refine hcl2.mono ?_
    clear hcl2
    rintro e u2 ⟨rfl, kp2, A2, n2, c2, cu2, hcu2, hkb2', hgr2⟩
    have HC2 := qh hcu2
    have KB2 : Hid (u2.heap[kb]? = some (.cells #[.slice gA1 p.globals.length gc1, .slice lA1 p.locks.length lc1, .slice pA1 (pnames p.procs).length pc1, .slice eA1 (j + 1) ec1, .slice A2 n2 c2] 32 (0, 0))) := qh hkb2'
    have GR2 := qh hgr2
    have HL2 : Hid (cu2.length = n2) := qh (by obtain ⟨_, _, e, _, _⟩ := hgr2.slice; injection e with _ e; exact e.symm)
    have KP2 := qh kp2
    have OW2 := qh (OW1.out.keep kp2 (fun b hb => ⟨fun e => by have := (OW1.out.lt b hb).1; omega, .inr hb⟩))
    have hz2 := kp2.size
    have hn2 : n2 ≤ 2000 := by
     have q1 := emSs_len (envP p) n body
     have q2 := HL2.out
     have q3 := HL.out
     rw [hcu2, List.length_append] at q2
     omega
    clear hcu2 hkb2' hgr2 kp2
    obtain ⟨cs2, G2, hat2⟩ := GR2.out
    have HAT2 := qh hat2
    have OWi := qh hat2.ow.own
    rw [HL2.out] at OWi
    obtain ⟨k0, k1, k2, k3, k4, f3, f4⟩ := box5 KB2.out
    have hkl2 := lt_of_block KB2.out
    have t1 : n2 + 1 ≤ maxLen := by unfold maxLen; omega
    have t2 : (n2 + 1) * 80 ≤ 140737488355328 := by omega
    clear hat2
    go_wp2_with (at_builtin; refine wpList_appG_new u2.heap.size rfl rfl _ _ _ rfl inT OWi.out _ 1 rfl rfl rfl (by simp [Value.oneCell']) t1 t2 ?_; intro v9 w9 own9 gr9; have hne : (Value.slice A2 n2 c2).ownBlock ≠ some kb := (fun e => by have := (HAT2.out.ow.lt kb e).1; omega); have KZ := qh ((gr9.keep.block kb hkl2 hne).trans KB2.out); obtain ⟨y0, y1, y2, y3, y4, g3, g4⟩ := box5 KZ.out; have hy := lt_of_block KZ.out; have hsl := own9.slice; obtain ⟨A3, c3, rfl, _⟩ := hsl; obtain ⟨n3, hn3⟩ : ∃ n, n2 + 1 = n := ⟨_, rfl⟩; rw [hn3] at own9 gr9 ⊢; have HN3 : Hid (cu2.length + 1 = n3) := qh (by rw [HL2.out]; exact hn3); have OWN9 : Hid (Own (cutX base u2) w9 45 7 (.slice A3 n3 c3) (cu2.length + 1) (cs2.flatten ++ [.int .i64 9, .int .i64 0, .int .i64 0, .int .i64 0, .string ⟨#[]⟩, .slice none 0 0, .int .i64 0])) := qh (by rw [HN3.out]; exact own9); have GZ9 := qh gr9; clear own9 gr9 hn3 hne)
    have DONE := grwi_app (o := 4) hkb3 HAT2.out (Below.refl _ _) (icP_zero _ 9 0 0 (by unfold i64in; omega) (by unfold i64in; omega) (by unfold i64in; omega)) (fun b hb => hb.elim) (fun b h => (OW2.out.lt b h).2) OWN9.out GZ9.out (.slice A3 n3 c3)
    have RN : Hid (CoS wx (w9.setCell ⟨kb, 4, none⟩ (.slice A3 n3 c3)) kb base gA1 lA1 pA1 gc1 lc1 pc1 p 32 (j + 1)) := qh (by
     refine ⟨eA1, ec1, A3, n3, c3, s5_4 KZ.out _, ?_, ?_, ?_⟩
     ·have h := OW2.out.keep DONE.2.1 (fun b hb => ⟨fun e => by have := (OW2.out.lt b hb).1; omega, .inr hb⟩)
      rw [List.take_succ_eq_append_getElem hlt, entR_snoc, Nat.zero_add, HL.out, List.map_append]
      exact h
     ·have h := DONE.1
      rw [HC2.out] at h
      rw [List.take_succ_eq_append_getElem hlt, insR_snoc, Nat.zero_add, HL.out, HBD.out]
      exact h
     ·exact (KPX.out.trans KP2.out (fun b _ h => ⟨h.2, .inl h.1⟩)).trans DONE.2.1 (fun b _ h => ⟨h.2, .inl h.1⟩))
    clear DONE
    go_roundw
    case rel => exact ⟨j + 1, by omega, by go_num, RN⟩
    case measure => simp [intOf]; omega
   ·have e : j = p.procs.length := by omega
    subst e
    obtain ⟨eA2, ec2, iA2, ic2, hkc, hcd⟩ := CoS.code (w0 := w1) (CN.out.keep (wy := wr) fun b h1 h2 h3 => KPR.out.block b (by omega) ⟨h2, h3⟩) HR.out (Nat.le_refl _) hkb1 hkb3 HF.out
    have CD := qh hcd
    have KC : Hid (wr.heap[kb]? = some (.cells #[.slice gA1 p.globals.length gc1, .slice lA1 p.locks.length lc1, .slice pA1 (pnames p.procs).length pc1, .slice eA2 (entR (envP p) 0 p.procs).length ec2, .slice iA2 (insR (envP p) 0 p.procs).length ic2] 32 (0, 0))) := qh hkc
    have hkl := lt_of_block KC.out
    have hrl := lt_of_block RBR.out
    obtain ⟨k0, k1, k2, k3, k4, -, -⟩ := box5 KC.out
    obtain ⟨y0, y1, y2, y3, y4, -, -⟩ := box5 RBR.out
    obtain ⟨f0, f1, f2, f3, f4⟩ := box5f RBR.out
    clear hkc hcd HR
    go_wp2_with fail
    have RF := qh (s5_all RBR.out (.slice gA1 p.globals.length gc1) (.slice lA1 p.locks.length lc1) (.slice pA1 (pnames p.procs).length pc1) (.slice eA2 (entR (envP p) 0 p.procs).length ec2) (.slice iA2 (insR (envP p) 0 p.procs).length ic2))
    have FB := qh (five_below BWR.out (g := w.heap.size + 1) (by omega) (.slice gA1 p.globals.length gc1) (.slice lA1 p.locks.length lc1) (.slice pA1 (pnames p.procs).length pc1) (.slice eA2 (entR (envP p) 0 p.procs).length ec2) (.slice iA2 (insR (envP p) 0 p.procs).length ic2))
    have CF := qh ((CD.out.keep fun b hb => five_other (w := wr) (g := w.heap.size + 1) (.slice gA1 p.globals.length gc1) (.slice lA1 p.locks.length lc1) (.slice pA1 (pnames p.procs).length pc1) (.slice eA2 (entR (envP p) 0 p.procs).length ec2) (.slice iA2 (insR (envP p) 0 p.procs).length ic2) b (by omega)).sub (F' := Made w (((((wr.setCell ⟨w.heap.size + 1, 0, none⟩ (.slice gA1 p.globals.length gc1)).setCell ⟨w.heap.size + 1, 1, none⟩ (.slice lA1 p.locks.length lc1)).setCell ⟨w.heap.size + 1, 2, none⟩ (.slice pA1 (pnames p.procs).length pc1)).setCell ⟨w.heap.size + 1, 3, none⟩ (.slice eA2 (entR (envP p) 0 p.procs).length ec2)).setCell ⟨w.heap.size + 1, 4, none⟩ (.slice iA2 (insR (envP p) 0 p.procs).length ic2))) fun b hb => ⟨by omega, by simp; exact hb.2.1⟩)
    obtain ⟨z0, z1, z2, z3, z4, -, -⟩ := box5 RF.out
    exact bodyPost_ret (v := .tuple #[.agg #[.slice gA1 p.globals.length gc1, .slice lA1 p.locks.length lc1, .slice pA1 (pnames p.procs).length pc1, .slice eA2 (entR (envP p) 0 p.procs).length ec2, .slice iA2 (insR (envP p) 0 p.procs).length ic2], .bool true]) (by simp [results, Tryz.results6, go_sem, z0, z1, z2, z3, z4]) rfl ⟨⟨gA1, gc1, lA1, lc1, pA1, pc1, eA2, ec2, iA2, ic2⟩, rfl, CF.out, FB.out⟩
theorem impl_CodeOf (p : Pg) (x : V3) (w : World) (hp : PgIs w x p) (htot : totPg p ≤ 1048576) : Calls Tryz.prog 6 #[x.val p] w (RetCO w (codeR p)) := by
 by_cases hf : faultR p = 0
 ·exact impl_CodeOf_good p x w hp htot hf
 ·exact impl_CodeOf_bad p x w hp htot hf
end Go.Proofs.YtnmblfonmfjoeaaGreatDoor
