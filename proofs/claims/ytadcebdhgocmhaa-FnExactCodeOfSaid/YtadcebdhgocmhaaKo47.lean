/- Lemmas for the row. -/
import Derived.Test.YtadcebdhgocmhaaKo46
import Derived.Test.YtadcebdhgocmhaaKo41
import Derived.Deep.RegionHeld3
import Derived.Deep.CutRange
namespace Go.Proofs.Ytadcebdhgocmhaa
open Go.RowKit
set_option linter.unusedVariables false
theorem zero_cdOS (w : World) (F : Nat → Prop) : CdO w F ⟨none, 0, none, 0, none, 0, none, 0, none, 0⟩ zeroCd :=
  ⟨fun _ _ => False, fun _ _ h => h.elim, fun _ _ _ _ h => h.elim, ⟨Nat.le_refl _, Nat.zero_le _, [], fun _ _ => False, RowO.nil _ _ _ _ _, fun i h => absurd h (by simp [zeroCd])⟩, ⟨Nat.le_refl _, Nat.zero_le _, [], fun _ _ => False, RowO.nil _ _ _ _ _, fun i h => absurd h (by simp [zeroCd])⟩, ⟨Nat.le_refl _, Nat.zero_le _, [], fun _ _ => False, RowO.nil _ _ _ _ _, fun i h => absurd h (by simp [zeroCd])⟩, ⟨Nat.le_refl _, Nat.zero_le _, [], fun _ _ => False, RowO.nil _ _ _ _ _, fun i h => absurd h (by simp [zeroCd])⟩, ⟨Nat.le_refl _, Nat.zero_le _, [], fun _ _ => False, RowO.nil _ _ _ _ _, fun i h => absurd h (by simp [zeroCd])⟩⟩
set_option maxHeartbeats 3200000 in
set_option maxRecDepth 100000 in
theorem spec_CodeOf_bad (p : Pg) (x : V3) (w : World) (hp : PgIs w x p) (htot : totPg p ≤ 1048576) (hf : ¬ faultR p = 0) :
    Calls Try.prog 16 #[x.val p] w (RetCO w (codeR p)) := by
  rw [codeR_bad hf]
  obtain ⟨gA, gc, lA, lc, pA, pc⟩ := x
  unfold V3.val
  have HP := Lib.hid hp
  have hne : (faultR p != 0) = true := by simp [hf]
  clear hp hf
  go_enter Try.func16, Try.ntmps16
  go_wp2_with fail
  refine (spec_ProgFault p ⟨gA, gc, lA, lc, pA, pc⟩ _ (HP.out.belowA (by repeat' first|exact .refl _ _|exact Nat.le_refl _|refine .alloc ?_ ?_ _|refine .setCell ?_ ?_ _|refine .drew ?_|refine below_drewN ?_ _|assumption|(simp;done)|(simp;omega))) htot).mono ?_
  rintro e w1 ⟨rfl, b1⟩
  have B1 : Hid (Below w.heap.size w w1) := Lib.hid (Below.trans ((by repeat' first|exact .refl _ _|exact Nat.le_refl _|refine .alloc ?_ ?_ _|refine .setCell ?_ ?_ _|refine .drew ?_|refine below_drewN ?_ _|assumption|(simp;done)|(simp;omega)) : Below w.heap.size w ((w.alloc (.cells #[.slice gA p.globals.length gc, .slice lA p.locks.length lc, .slice pA p.procs.length pc] 27)).alloc (.cells #[.slice none 0 0, .slice none 0 0, .slice none 0 0, .slice none 0 0, .slice none 0 0] 48))) (b1.mono (by simp; omega)))
  have RB : Hid (w1.heap[(w.heap.size + 1)]? = some (.cells #[.slice none 0 0, .slice none 0 0, .slice none 0 0, .slice none 0 0, .slice none 0 0] 48 (0, 0))) := Lib.hid ((b1.block (w.heap.size + 1) (by simp)).trans (by have := heap_alloc_new (w.alloc (.cells #[.slice gA p.globals.length gc, .slice lA p.locks.length lc, .slice pA p.procs.length pc] 27)) (.cells #[.slice none 0 0, .slice none 0 0, .slice none 0 0, .slice none 0 0, .slice none 0 0] 48); simpa using this))
  obtain ⟨y0, y1, y2, y3, y4, -, -⟩ := box5 RB.out
  obtain ⟨f0, f1, f2, f3, f4⟩ := box5f RB.out
  have hz := b1.size
  simp only [World.size_alloc] at hz
  clear b1
  go_wp2_with fail
  have FB : Hid (Below w.heap.size w (((((w1.setCell ⟨w.heap.size + 1, 0, none⟩ (.slice none 0 0)).setCell ⟨w.heap.size + 1, 1, none⟩ (.slice none 0 0)).setCell ⟨w.heap.size + 1, 2, none⟩ (.slice none 0 0)).setCell ⟨w.heap.size + 1, 3, none⟩ (.slice none 0 0)).setCell ⟨w.heap.size + 1, 4, none⟩ (.slice none 0 0))) := Lib.hid (five_below B1.out (by omega) _ _ _ _ _)
  have RF := Lib.hid (s5_all RB.out (.slice none 0 0) (.slice none 0 0) (.slice none 0 0) (.slice none 0 0) (.slice none 0 0))
  obtain ⟨z0, z1, z2, z3, z4, -, -⟩ := box5 RF.out
  exact bodyPost_ret (v := .tuple #[.agg #[.slice none 0 0, .slice none 0 0, .slice none 0 0, .slice none 0 0, .slice none 0 0], .bool false]) (by simp [results, Try.results16, go_sem, z0, z1, z2, z3, z4]) rfl ⟨⟨none, 0, none, 0, none, 0, none, 0, none, 0⟩, rfl, zero_cdOS _ _, FB.out⟩
set_option maxHeartbeats 64000000 in
set_option maxRecDepth 100000 in
theorem spec_CodeOf_good (p : Pg) (x : V3) (w : World) (hp : PgIs w x p) (htot : totPg p ≤ 1048576) (hf : faultR p = 0) :
    Calls Try.prog 16 #[x.val p] w (RetCO w (codeR p)) := by
  rw [codeR_good hf]
  obtain ⟨gA, gc, lA, lc, pA, pc⟩ := x
  unfold V3.val
  have HP := Lib.hid hp
  have HF := Lib.hid hf
  have hne : (faultR p != 0) = false := by simp [hf]
  obtain ⟨hg6, hl6, hp8, hq⟩ := fault_facts hf
  have HQ := Lib.hid hq
  have hcap := hp.p2
  have hcl := hp.p1
  simp only at hcap hcl
  unfold maxLen at hcap
  clear hp hf hq
  go_enter Try.func16, Try.ntmps16
  go_wp2_with fail
  refine (spec_ProgFault p ⟨gA, gc, lA, lc, pA, pc⟩ _ (HP.out.belowA (by repeat' first|exact .refl _ _|exact Nat.le_refl _|refine .alloc ?_ ?_ _|refine .setCell ?_ ?_ _|refine .drew ?_|refine below_drewN ?_ _|assumption|(simp;done)|(simp;omega))) htot).mono ?_
  rintro e w1 ⟨rfl, b1⟩
  have B1 : Hid (Below w.heap.size w w1) := Lib.hid (Below.trans ((by repeat' first|exact .refl _ _|exact Nat.le_refl _|refine .alloc ?_ ?_ _|refine .setCell ?_ ?_ _|refine .drew ?_|refine below_drewN ?_ _|assumption|(simp;done)|(simp;omega)) : Below w.heap.size w ((w.alloc (.cells #[.slice gA p.globals.length gc, .slice lA p.locks.length lc, .slice pA p.procs.length pc] 27)).alloc (.cells #[.slice none 0 0, .slice none 0 0, .slice none 0 0, .slice none 0 0, .slice none 0 0] 48))) (b1.mono (by simp; omega)))
  have RB : Hid (w1.heap[(w.heap.size + 1)]? = some (.cells #[.slice none 0 0, .slice none 0 0, .slice none 0 0, .slice none 0 0, .slice none 0 0] 48 (0, 0))) := Lib.hid ((b1.block (w.heap.size + 1) (by simp)).trans (by have := heap_alloc_new (w.alloc (.cells #[.slice gA p.globals.length gc, .slice lA p.locks.length lc, .slice pA p.procs.length pc] 27)) (.cells #[.slice none 0 0, .slice none 0 0, .slice none 0 0, .slice none 0 0, .slice none 0 0] 48); simpa using this))
  have PB : Hid (w1.heap[w.heap.size]? = some (.cells #[.slice gA p.globals.length gc, .slice lA p.locks.length lc, .slice pA p.procs.length pc] 27 (0, 0))) := Lib.hid ((b1.block w.heap.size (by simp; omega)).trans ((heap_alloc_lt (by simp)).trans (heap_alloc_new _ _)))
  have hz1 := b1.size
  simp only [World.size_alloc] at hz1
  have P1 := Lib.hid (HP.out.belowA B1.out)
  clear b1
  obtain ⟨q0, q1, q2⟩ := box3P PB.out
  have hpb1 : w.heap.size < w1.heap.size := by omega
  go_upto_region 3 with fail
  go_cut [4] from 5 to 67 (fun v4 wx => ∃ kb gA1 lA1 gc1 lc1, v4 = .pointer (some ⟨kb, 0, none⟩) ∧ Hid (CoN2 w1 wx kb wx.heap.size gA1 lA1 gc1 lc1 p ∧ w1.heap.size ≤ kb ∧ kb < wx.heap.size ∧ Below w1.heap.size w1 wx ∧ wx.heap[kb]? = some (.cells #[.slice gA1 p.globals.length gc1, .slice lA1 p.locks.length lc1, .slice none 0 0, .slice none 0 0, .slice none 0 0] 48 (0, 0))))
  case first =>
    have hg5 : p.globals.length ≤ 100000 := by omega
    have hl5 : p.locks.length ≤ 100000 := by omega
    have hSD := sp3_of q0 q1 q2 hpb1 (Below.refl w1.heap.size w1).drew
    refine wp_region_noPanic ?_
    refine wp_region_sk (fun w' => w'.cell? ⟨w.heap.size, 0, none⟩ = some (.slice gA p.globals.length gc) ∧ w'.cell? ⟨w.heap.size, 1, none⟩ = some (.slice lA p.locks.length lc) ∧ w'.cell? ⟨w.heap.size, 2, none⟩ = some (.slice pA p.procs.length pc) ∧ Below w1.heap.size w1 w') 10 (by kernel_rfl) hSD (fun hHeld => ?_)
    obtain ⟨u0, hu0⟩ : ∃ u, w1.drew = u := ⟨_, rfl⟩
    have hsu0 : w1.heap.size ≤ u0.heap.size := by rw [← hu0]; exact Nat.le_refl _
    rw [hu0] at hHeld hSD ⊢
    clear hu0
    have Bu0 : Hid (Below w1.heap.size w1 u0) := Lib.hid hHeld.2.2.2
    clear hSD
    refine wpSk_take (i := 1) (v := ?hv1) rfl (by kernel_rfl) (fun _ _ _ h => h) (Or.inl ⟨by rfl, ?hy1⟩) (by assumption) ?hr1
    case hy1 => (intro wS hSw; (try dsimp only at hSw); go_simp; (try with_reducible rfl))
    try simp only [Act.put, layS]
    refine wpSk_take (i := 2) (v := ?hv2) rfl (by kernel_rfl) (fun _ _ _ h => h) (Or.inl ⟨by rfl, ?hy2⟩) (by assumption) ?hr2
    case hy2 => (intro wS hSw; (try dsimp only at hSw); go_simp; (try with_reducible rfl))
    try simp only [Act.put]
    refine wpSk_take (i := 5) (v := ?hv5) rfl (by kernel_rfl) (fun _ _ _ h => h) (Or.inl ⟨by rfl, ?hy5⟩) (by assumption) ?hr5
    case hy5 => (intro wS hSw; (try dsimp only at hSw); go_simp; (try with_reducible rfl))
    try simp only [Act.put]
    refine wpSk_take (i := 6) (v := ?hv6) rfl (by kernel_rfl) (fun _ _ _ h => h) (Or.inl ⟨by rfl, ?hy6⟩) (by assumption) ?hr6
    case hy6 => (intro wS hSw; (try dsimp only at hSw); go_simp; (try with_reducible rfl))
    try simp only [Act.put]
    refine wpSk_or3 (i := 0) (j := 4) (l := 9) (by kernel_rfl) rfl rfl rfl (fun K hK => ?_) (fun K hK => ?_) (fun K hK => ?_)
    · go_simp
      refine hK.out _ _ (fun _ => sp3_of q0 q1 q2 hpb1 (Bu0.out.alloc (by omega) _)) ?_
      clear hK K hHeld
      obtain ⟨u1, hvu1⟩ : ∃ x, u0.alloc (.cells #[] 9) = x := ⟨_, rfl⟩
      rw [hvu1]
      obtain ⟨he1', bu1, hsau1, hsbu1⟩ := alloc_facts hvu1
      have Bu1 : Hid (Below w1.heap.size w1 u1) := Lib.hid (below_then Bu0.out bu1)
      have He1 := Lib.hid he1'
      clear hvu1 bu1 he1'
      have hHeld := sp3_of q0 q1 q2 hpb1 Bu1.out
      try simp only [Act.put, layS, layZ, layC]
      refine wpSk_or3 (i := 3) (j := 4) (l := 9) (by kernel_rfl) rfl rfl rfl (fun K hK => ?_) (fun K hK => ?_) (fun K hK => ?_)
      · refine step_clone (by rfl) _ _ (by rfl) (by rfl) gA p.globals gc (by rfl) He1.out (P1.out.belowA Bu1.out).g3 P1.out.g4 hg5 ?_
        rintro v' u2 ⟨gA1, gc1, nG, rfl, hcG, RG, hnG, hmG, ku2⟩
        have Bu2 : Hid (Below w1.heap.size w1 u2) := Lib.hid (below_kpS Bu1.out ku2 (fun b hb => by omega))
        have hsau2 := ku2.size
        refine hK.out _ _ (fun _ => sp3_of q0 q1 q2 hpb1 Bu2.out) ?_
        clear hK K hHeld
        have HRG : Hid (u2.heap[nG]? = u2.heap[nG]?) := Lib.hid rfl
        clear ku2 He1
        have hHeld := sp3_of q0 q1 q2 hpb1 Bu2.out
        try simp only [Act.put, layS]
        refine wpSk_or2 (i := 4) (j := 9) (by kernel_rfl) rfl rfl (fun K hK => ?_) (fun K hK => ?_)
        · go_simp
          refine hK.out _ _ (fun _ => sp3_of q0 q1 q2 hpb1 (Bu2.out.alloc (by omega) _)) ?_
          clear hK K hHeld
          obtain ⟨u3, hvu3⟩ : ∃ x, u2.alloc (.cells #[] 9) = x := ⟨_, rfl⟩
          rw [hvu3]
          obtain ⟨he2', bu3, hsau3, hsbu3⟩ := alloc_facts hvu3
          have Bu3 : Hid (Below w1.heap.size w1 u3) := Lib.hid (below_then Bu2.out bu3)
          replace HRG := Lib.hid ((bu3.block nG (by omega)).trans HRG.out)
          have He2 := Lib.hid he2'
          clear hvu3 bu3 he2'
          have hHeld := sp3_of q0 q1 q2 hpb1 Bu3.out
          try simp only [Act.put, layS, layZ, layC]
          refine wpSk_or2 (i := 7) (j := 9) (by kernel_rfl) rfl rfl (fun K hK => ?_) (fun K hK => ?_)
          · refine step_clone (by rfl) _ _ (by rfl) (by rfl) lA p.locks lc (by rfl) He2.out (P1.out.belowA Bu3.out).l3 P1.out.l4 hl5 ?_
            rintro v' u4 ⟨lA1, lc1, nL, rfl, hcL, RL, hnL, hmL, ku4⟩
            have Bu4 : Hid (Below w1.heap.size w1 u4) := Lib.hid (below_kpS Bu3.out ku4 (fun b hb => by omega))
            have hsau4 := ku4.size
            refine hK.out _ _ (fun _ => sp3_of q0 q1 q2 hpb1 Bu4.out) ?_
            clear hK K hHeld
            replace HRG := Lib.hid ((ku4.block nG (by omega) (by omega)).trans HRG.out)
            have HRL : Hid (u4.heap[nL]? = u4.heap[nL]?) := Lib.hid rfl
            clear ku4 He2
            have hHeld := sp3_of q0 q1 q2 hpb1 Bu4.out
            try simp only [Act.put, layS]
            refine wpSk_take (i := 8) (v := ?hvf870328) rfl (by kernel_rfl) (fun _ _ _ h => h) (Or.inl ⟨by rfl, ?hyf870328⟩) (by assumption) ?hrf870328
            case hyf870328 => (intro wS hSw; (try dsimp only at hSw); go_simp; (try with_reducible rfl))
            try simp only [Act.put]
            refine wpSk_step (i := 9) (by kernel_rfl) rfl (fun K hK => ?_)
            go_simp
            refine hK.out _ _ (fun _ => sp3_of q0 q1 q2 hpb1 (Bu4.out.alloc (by omega) _)) ?_
            clear hK K hHeld
            obtain ⟨u5, hvu5⟩ : ∃ x, u4.alloc (.cells #[.slice none 0 0, .slice none 0 0, .slice none 0 0, .slice none 0 0, .slice none 0 0] 48) = x := ⟨_, rfl⟩
            rw [hvu5]
            obtain ⟨hkb', bu5, hsau5, hsbu5⟩ := alloc_facts hvu5
            have Bu5 : Hid (Below w1.heap.size w1 u5) := Lib.hid (below_then Bu4.out bu5)
            replace HRG := Lib.hid ((bu5.block nG (by omega)).trans HRG.out)
            replace HRL := Lib.hid ((bu5.block nL (by omega)).trans HRL.out)
            have Hkb := Lib.hid hkb'
            clear hvu5 bu5 hkb'
            have hHeld := sp3_of q0 q1 q2 hpb1 Bu5.out
            try simp only [Act.put, layS, layZ, layC]
            clear hHeld
            obtain ⟨y0, y1, y2, y3, y4, -, -⟩ := box5 Hkb.out
            obtain ⟨fz0, fz1, fz2, fz3, fz4⟩ := box5f Hkb.out
            have hkl := lt_of_block Hkb.out
            refine wpSk_step (i := 10) (by kernel_rfl) rfl (fun K hK => ?_)
            go_simp
            refine hK.out _ _ (fun h => absurd h (by decide)) ?_
            clear hK K
            refine wpSk_done (by kernel_rfl) ?_ _
            refine NoPanic.normal ?_
            go_wp2_with fail
            go_meet
            exact ⟨u4.heap.size, gA1, lA1, gc1, lc1, rfl, Lib.hid (con2_done rfl hcG hcL RG.out RL.out (by first | exact HRG.out | rfl) (by first | exact HRL.out | rfl) Hkb.out Bu5.out (by omega) (by omega) (by omega) (by omega) (by omega) (by omega) (by omega) (by omega))⟩
          · go_simp
            refine hK.out _ _ (fun _ => sp3_of q0 q1 q2 hpb1 (Bu3.out.alloc (by omega) _)) ?_
            clear hK K hHeld
            obtain ⟨u4, hvu4⟩ : ∃ x, u3.alloc (.cells #[.slice none 0 0, .slice none 0 0, .slice none 0 0, .slice none 0 0, .slice none 0 0] 48) = x := ⟨_, rfl⟩
            rw [hvu4]
            obtain ⟨hkb', bu4, hsau4, hsbu4⟩ := alloc_facts hvu4
            have Bu4 : Hid (Below w1.heap.size w1 u4) := Lib.hid (below_then Bu3.out bu4)
            replace He2 := Lib.hid ((bu4.block _ (lt_of_block He2.out)).trans He2.out)
            replace HRG := Lib.hid ((bu4.block nG (by omega)).trans HRG.out)
            have Hkb := Lib.hid hkb'
            clear hvu4 bu4 hkb'
            have hHeld := sp3_of q0 q1 q2 hpb1 Bu4.out
            try simp only [Act.put, layS, layZ, layC]
            refine wpSk_step (i := 7) (by kernel_rfl) rfl (fun K hK => ?_)
            refine step_clone (by rfl) _ _ (by rfl) (by rfl) lA p.locks lc (by rfl) He2.out (P1.out.belowA Bu4.out).l3 P1.out.l4 hl5 ?_
            rintro v' u5 ⟨lA1, lc1, nL, rfl, hcL, RL, hnL, hmL, ku5⟩
            have Bu5 : Hid (Below w1.heap.size w1 u5) := Lib.hid (below_kpS Bu4.out ku5 (fun b hb => by omega))
            have hsau5 := ku5.size
            refine hK.out _ _ (fun _ => sp3_of q0 q1 q2 hpb1 Bu5.out) ?_
            clear hK K hHeld
            have nekbu5 : u3.heap.size ≠ u2.heap.size := by omega
            replace Hkb := Lib.hid ((ku5.block _ (lt_of_block Hkb.out) nekbu5).trans Hkb.out)
            replace HRG := Lib.hid ((ku5.block nG (by omega) (by omega)).trans HRG.out)
            have HRL : Hid (u5.heap[nL]? = u5.heap[nL]?) := Lib.hid rfl
            clear ku5 He2
            have hHeld := sp3_of q0 q1 q2 hpb1 Bu5.out
            try simp only [Act.put, layS]
            refine wpSk_take (i := 8) (v := ?hvf253958) rfl (by kernel_rfl) (fun _ _ _ h => h) (Or.inl ⟨by rfl, ?hyf253958⟩) (by assumption) ?hrf253958
            case hyf253958 => (intro wS hSw; (try dsimp only at hSw); go_simp; (try with_reducible rfl))
            try simp only [Act.put]
            clear hHeld
            obtain ⟨y0, y1, y2, y3, y4, -, -⟩ := box5 Hkb.out
            obtain ⟨fz0, fz1, fz2, fz3, fz4⟩ := box5f Hkb.out
            have hkl := lt_of_block Hkb.out
            refine wpSk_step (i := 10) (by kernel_rfl) rfl (fun K hK => ?_)
            go_simp
            refine hK.out _ _ (fun h => absurd h (by decide)) ?_
            clear hK K
            refine wpSk_done (by kernel_rfl) ?_ _
            refine NoPanic.normal ?_
            go_wp2_with fail
            go_meet
            exact ⟨u3.heap.size, gA1, lA1, gc1, lc1, rfl, Lib.hid (con2_done rfl hcG hcL RG.out RL.out (by first | exact HRG.out | rfl) (by first | exact HRL.out | rfl) Hkb.out Bu5.out (by omega) (by omega) (by omega) (by omega) (by omega) (by omega) (by omega) (by omega))⟩
        · go_simp
          refine hK.out _ _ (fun _ => sp3_of q0 q1 q2 hpb1 (Bu2.out.alloc (by omega) _)) ?_
          clear hK K hHeld
          obtain ⟨u3, hvu3⟩ : ∃ x, u2.alloc (.cells #[.slice none 0 0, .slice none 0 0, .slice none 0 0, .slice none 0 0, .slice none 0 0] 48) = x := ⟨_, rfl⟩
          rw [hvu3]
          obtain ⟨hkb', bu3, hsau3, hsbu3⟩ := alloc_facts hvu3
          have Bu3 : Hid (Below w1.heap.size w1 u3) := Lib.hid (below_then Bu2.out bu3)
          replace HRG := Lib.hid ((bu3.block nG (by omega)).trans HRG.out)
          have Hkb := Lib.hid hkb'
          clear hvu3 bu3 hkb'
          have hHeld := sp3_of q0 q1 q2 hpb1 Bu3.out
          try simp only [Act.put, layS, layZ, layC]
          refine wpSk_step (i := 4) (by kernel_rfl) rfl (fun K hK => ?_)
          go_simp
          refine hK.out _ _ (fun _ => sp3_of q0 q1 q2 hpb1 (Bu3.out.alloc (by omega) _)) ?_
          clear hK K hHeld
          obtain ⟨u4, hvu4⟩ : ∃ x, u3.alloc (.cells #[] 9) = x := ⟨_, rfl⟩
          rw [hvu4]
          obtain ⟨he2', bu4, hsau4, hsbu4⟩ := alloc_facts hvu4
          have Bu4 : Hid (Below w1.heap.size w1 u4) := Lib.hid (below_then Bu3.out bu4)
          replace Hkb := Lib.hid ((bu4.block _ (lt_of_block Hkb.out)).trans Hkb.out)
          replace HRG := Lib.hid ((bu4.block nG (by omega)).trans HRG.out)
          have He2 := Lib.hid he2'
          clear hvu4 bu4 he2'
          have hHeld := sp3_of q0 q1 q2 hpb1 Bu4.out
          try simp only [Act.put, layS, layZ, layC]
          refine wpSk_step (i := 7) (by kernel_rfl) rfl (fun K hK => ?_)
          refine step_clone (by rfl) _ _ (by rfl) (by rfl) lA p.locks lc (by rfl) He2.out (P1.out.belowA Bu4.out).l3 P1.out.l4 hl5 ?_
          rintro v' u5 ⟨lA1, lc1, nL, rfl, hcL, RL, hnL, hmL, ku5⟩
          have Bu5 : Hid (Below w1.heap.size w1 u5) := Lib.hid (below_kpS Bu4.out ku5 (fun b hb => by omega))
          have hsau5 := ku5.size
          refine hK.out _ _ (fun _ => sp3_of q0 q1 q2 hpb1 Bu5.out) ?_
          clear hK K hHeld
          have nekbu5 : u2.heap.size ≠ u3.heap.size := by omega
          replace Hkb := Lib.hid ((ku5.block _ (lt_of_block Hkb.out) nekbu5).trans Hkb.out)
          replace HRG := Lib.hid ((ku5.block nG (by omega) (by omega)).trans HRG.out)
          have HRL : Hid (u5.heap[nL]? = u5.heap[nL]?) := Lib.hid rfl
          clear ku5 He2
          have hHeld := sp3_of q0 q1 q2 hpb1 Bu5.out
          try simp only [Act.put, layS]
          refine wpSk_take (i := 8) (v := ?hvf496998) rfl (by kernel_rfl) (fun _ _ _ h => h) (Or.inl ⟨by rfl, ?hyf496998⟩) (by assumption) ?hrf496998
          case hyf496998 => (intro wS hSw; (try dsimp only at hSw); go_simp; (try with_reducible rfl))
          try simp only [Act.put]
          clear hHeld
          obtain ⟨y0, y1, y2, y3, y4, -, -⟩ := box5 Hkb.out
          obtain ⟨fz0, fz1, fz2, fz3, fz4⟩ := box5f Hkb.out
          have hkl := lt_of_block Hkb.out
          refine wpSk_step (i := 10) (by kernel_rfl) rfl (fun K hK => ?_)
          go_simp
          refine hK.out _ _ (fun h => absurd h (by decide)) ?_
          clear hK K
          refine wpSk_done (by kernel_rfl) ?_ _
          refine NoPanic.normal ?_
          go_wp2_with fail
          go_meet
          exact ⟨u2.heap.size, gA1, lA1, gc1, lc1, rfl, Lib.hid (con2_done rfl hcG hcL RG.out RL.out (by first | exact HRG.out | rfl) (by first | exact HRL.out | rfl) Hkb.out Bu5.out (by omega) (by omega) (by omega) (by omega) (by omega) (by omega) (by omega) (by omega))⟩
      · go_simp
        refine hK.out _ _ (fun _ => sp3_of q0 q1 q2 hpb1 (Bu1.out.alloc (by omega) _)) ?_
        clear hK K hHeld
        obtain ⟨u2, hvu2⟩ : ∃ x, u1.alloc (.cells #[] 9) = x := ⟨_, rfl⟩
        rw [hvu2]
        obtain ⟨he2', bu2, hsau2, hsbu2⟩ := alloc_facts hvu2
        have Bu2 : Hid (Below w1.heap.size w1 u2) := Lib.hid (below_then Bu1.out bu2)
        replace He1 := Lib.hid ((bu2.block _ (lt_of_block He1.out)).trans He1.out)
        have He2 := Lib.hid he2'
        clear hvu2 bu2 he2'
        have hHeld := sp3_of q0 q1 q2 hpb1 Bu2.out
        try simp only [Act.put, layS, layZ, layC]
        refine wpSk_or2 (i := 3) (j := 9) (by kernel_rfl) rfl rfl (fun K hK => ?_) (fun K hK => ?_)
        · refine step_clone (by rfl) _ _ (by rfl) (by rfl) gA p.globals gc (by rfl) He1.out (P1.out.belowA Bu2.out).g3 P1.out.g4 hg5 ?_
          rintro v' u3 ⟨gA1, gc1, nG, rfl, hcG, RG, hnG, hmG, ku3⟩
          have Bu3 : Hid (Below w1.heap.size w1 u3) := Lib.hid (below_kpS Bu2.out ku3 (fun b hb => by omega))
          have hsau3 := ku3.size
          refine hK.out _ _ (fun _ => sp3_of q0 q1 q2 hpb1 Bu3.out) ?_
          clear hK K hHeld
          have nee2u3 : u1.heap.size ≠ u0.heap.size := by omega
          replace He2 := Lib.hid ((ku3.block _ (lt_of_block He2.out) nee2u3).trans He2.out)
          have HRG : Hid (u3.heap[nG]? = u3.heap[nG]?) := Lib.hid rfl
          clear ku3 He1
          have hHeld := sp3_of q0 q1 q2 hpb1 Bu3.out
          try simp only [Act.put, layS]
          refine wpSk_or2 (i := 7) (j := 9) (by kernel_rfl) rfl rfl (fun K hK => ?_) (fun K hK => ?_)
          · refine step_clone (by rfl) _ _ (by rfl) (by rfl) lA p.locks lc (by rfl) He2.out (P1.out.belowA Bu3.out).l3 P1.out.l4 hl5 ?_
            rintro v' u4 ⟨lA1, lc1, nL, rfl, hcL, RL, hnL, hmL, ku4⟩
            have Bu4 : Hid (Below w1.heap.size w1 u4) := Lib.hid (below_kpS Bu3.out ku4 (fun b hb => by omega))
            have hsau4 := ku4.size
            refine hK.out _ _ (fun _ => sp3_of q0 q1 q2 hpb1 Bu4.out) ?_
            clear hK K hHeld
            replace HRG := Lib.hid ((ku4.block nG (by omega) (by omega)).trans HRG.out)
            have HRL : Hid (u4.heap[nL]? = u4.heap[nL]?) := Lib.hid rfl
            clear ku4 He2
            have hHeld := sp3_of q0 q1 q2 hpb1 Bu4.out
            try simp only [Act.put]
            refine wpSk_take (i := 8) (v := ?hvf885948) rfl (by kernel_rfl) (fun _ _ _ h => h) (Or.inl ⟨by rfl, ?hyf885948⟩) (by assumption) ?hrf885948
            case hyf885948 => (intro wS hSw; (try dsimp only at hSw); go_simp; (try with_reducible rfl))
            try simp only [Act.put]
            refine wpSk_step (i := 9) (by kernel_rfl) rfl (fun K hK => ?_)
            go_simp
            refine hK.out _ _ (fun _ => sp3_of q0 q1 q2 hpb1 (Bu4.out.alloc (by omega) _)) ?_
            clear hK K hHeld
            obtain ⟨u5, hvu5⟩ : ∃ x, u4.alloc (.cells #[.slice none 0 0, .slice none 0 0, .slice none 0 0, .slice none 0 0, .slice none 0 0] 48) = x := ⟨_, rfl⟩
            rw [hvu5]
            obtain ⟨hkb', bu5, hsau5, hsbu5⟩ := alloc_facts hvu5
            have Bu5 : Hid (Below w1.heap.size w1 u5) := Lib.hid (below_then Bu4.out bu5)
            replace HRG := Lib.hid ((bu5.block nG (by omega)).trans HRG.out)
            replace HRL := Lib.hid ((bu5.block nL (by omega)).trans HRL.out)
            have Hkb := Lib.hid hkb'
            clear hvu5 bu5 hkb'
            have hHeld := sp3_of q0 q1 q2 hpb1 Bu5.out
            try simp only [Act.put, layS, layZ, layC]
            clear hHeld
            obtain ⟨y0, y1, y2, y3, y4, -, -⟩ := box5 Hkb.out
            obtain ⟨fz0, fz1, fz2, fz3, fz4⟩ := box5f Hkb.out
            have hkl := lt_of_block Hkb.out
            refine wpSk_step (i := 10) (by kernel_rfl) rfl (fun K hK => ?_)
            go_simp
            refine hK.out _ _ (fun h => absurd h (by decide)) ?_
            clear hK K
            refine wpSk_done (by kernel_rfl) ?_ _
            refine NoPanic.normal ?_
            go_wp2_with fail
            go_meet
            exact ⟨u4.heap.size, gA1, lA1, gc1, lc1, rfl, Lib.hid (con2_done rfl hcG hcL RG.out RL.out (by first | exact HRG.out | rfl) (by first | exact HRL.out | rfl) Hkb.out Bu5.out (by omega) (by omega) (by omega) (by omega) (by omega) (by omega) (by omega) (by omega))⟩
          · go_simp
            refine hK.out _ _ (fun _ => sp3_of q0 q1 q2 hpb1 (Bu3.out.alloc (by omega) _)) ?_
            clear hK K hHeld
            obtain ⟨u4, hvu4⟩ : ∃ x, u3.alloc (.cells #[.slice none 0 0, .slice none 0 0, .slice none 0 0, .slice none 0 0, .slice none 0 0] 48) = x := ⟨_, rfl⟩
            rw [hvu4]
            obtain ⟨hkb', bu4, hsau4, hsbu4⟩ := alloc_facts hvu4
            have Bu4 : Hid (Below w1.heap.size w1 u4) := Lib.hid (below_then Bu3.out bu4)
            replace He2 := Lib.hid ((bu4.block _ (lt_of_block He2.out)).trans He2.out)
            replace HRG := Lib.hid ((bu4.block nG (by omega)).trans HRG.out)
            have Hkb := Lib.hid hkb'
            clear hvu4 bu4 hkb'
            have hHeld := sp3_of q0 q1 q2 hpb1 Bu4.out
            try simp only [Act.put, layS, layZ, layC]
            refine wpSk_step (i := 7) (by kernel_rfl) rfl (fun K hK => ?_)
            refine step_clone (by rfl) _ _ (by rfl) (by rfl) lA p.locks lc (by rfl) He2.out (P1.out.belowA Bu4.out).l3 P1.out.l4 hl5 ?_
            rintro v' u5 ⟨lA1, lc1, nL, rfl, hcL, RL, hnL, hmL, ku5⟩
            have Bu5 : Hid (Below w1.heap.size w1 u5) := Lib.hid (below_kpS Bu4.out ku5 (fun b hb => by omega))
            have hsau5 := ku5.size
            refine hK.out _ _ (fun _ => sp3_of q0 q1 q2 hpb1 Bu5.out) ?_
            clear hK K hHeld
            have nekbu5 : u3.heap.size ≠ u1.heap.size := by omega
            replace Hkb := Lib.hid ((ku5.block _ (lt_of_block Hkb.out) nekbu5).trans Hkb.out)
            replace HRG := Lib.hid ((ku5.block nG (by omega) (by omega)).trans HRG.out)
            have HRL : Hid (u5.heap[nL]? = u5.heap[nL]?) := Lib.hid rfl
            clear ku5 He2
            have hHeld := sp3_of q0 q1 q2 hpb1 Bu5.out
            try simp only [Act.put, layS]
            refine wpSk_take (i := 8) (v := ?hvf480458) rfl (by kernel_rfl) (fun _ _ _ h => h) (Or.inl ⟨by rfl, ?hyf480458⟩) (by assumption) ?hrf480458
            case hyf480458 => (intro wS hSw; (try dsimp only at hSw); go_simp; (try with_reducible rfl))
            try simp only [Act.put]
            clear hHeld
            obtain ⟨y0, y1, y2, y3, y4, -, -⟩ := box5 Hkb.out
            obtain ⟨fz0, fz1, fz2, fz3, fz4⟩ := box5f Hkb.out
            have hkl := lt_of_block Hkb.out
            refine wpSk_step (i := 10) (by kernel_rfl) rfl (fun K hK => ?_)
            go_simp
            refine hK.out _ _ (fun h => absurd h (by decide)) ?_
            clear hK K
            refine wpSk_done (by kernel_rfl) ?_ _
            refine NoPanic.normal ?_
            go_wp2_with fail
            go_meet
            exact ⟨u3.heap.size, gA1, lA1, gc1, lc1, rfl, Lib.hid (con2_done rfl hcG hcL RG.out RL.out (by first | exact HRG.out | rfl) (by first | exact HRL.out | rfl) Hkb.out Bu5.out (by omega) (by omega) (by omega) (by omega) (by omega) (by omega) (by omega) (by omega))⟩
        · go_simp
          refine hK.out _ _ (fun _ => sp3_of q0 q1 q2 hpb1 (Bu2.out.alloc (by omega) _)) ?_
          clear hK K hHeld
          obtain ⟨u3, hvu3⟩ : ∃ x, u2.alloc (.cells #[.slice none 0 0, .slice none 0 0, .slice none 0 0, .slice none 0 0, .slice none 0 0] 48) = x := ⟨_, rfl⟩
          rw [hvu3]
          obtain ⟨hkb', bu3, hsau3, hsbu3⟩ := alloc_facts hvu3
          have Bu3 : Hid (Below w1.heap.size w1 u3) := Lib.hid (below_then Bu2.out bu3)
          replace He1 := Lib.hid ((bu3.block _ (lt_of_block He1.out)).trans He1.out)
          replace He2 := Lib.hid ((bu3.block _ (lt_of_block He2.out)).trans He2.out)
          have Hkb := Lib.hid hkb'
          clear hvu3 bu3 hkb'
          have hHeld := sp3_of q0 q1 q2 hpb1 Bu3.out
          try simp only [Act.put, layS, layZ, layC]
          refine wpSk_step (i := 3) (by kernel_rfl) rfl (fun K hK => ?_)
          refine step_clone (by rfl) _ _ (by rfl) (by rfl) gA p.globals gc (by rfl) He1.out (P1.out.belowA Bu3.out).g3 P1.out.g4 hg5 ?_
          rintro v' u4 ⟨gA1, gc1, nG, rfl, hcG, RG, hnG, hmG, ku4⟩
          have Bu4 : Hid (Below w1.heap.size w1 u4) := Lib.hid (below_kpS Bu3.out ku4 (fun b hb => by omega))
          have hsau4 := ku4.size
          refine hK.out _ _ (fun _ => sp3_of q0 q1 q2 hpb1 Bu4.out) ?_
          clear hK K hHeld
          have nee2u4 : u1.heap.size ≠ u0.heap.size := by omega
          replace He2 := Lib.hid ((ku4.block _ (lt_of_block He2.out) nee2u4).trans He2.out)
          have nekbu4 : u2.heap.size ≠ u0.heap.size := by omega
          replace Hkb := Lib.hid ((ku4.block _ (lt_of_block Hkb.out) nekbu4).trans Hkb.out)
          have HRG : Hid (u4.heap[nG]? = u4.heap[nG]?) := Lib.hid rfl
          clear ku4 He1
          have hHeld := sp3_of q0 q1 q2 hpb1 Bu4.out
          try simp only [Act.put, layS]
          refine wpSk_step (i := 7) (by kernel_rfl) rfl (fun K hK => ?_)
          refine step_clone (by rfl) _ _ (by rfl) (by rfl) lA p.locks lc (by rfl) He2.out (P1.out.belowA Bu4.out).l3 P1.out.l4 hl5 ?_
          rintro v' u5 ⟨lA1, lc1, nL, rfl, hcL, RL, hnL, hmL, ku5⟩
          have Bu5 : Hid (Below w1.heap.size w1 u5) := Lib.hid (below_kpS Bu4.out ku5 (fun b hb => by omega))
          have hsau5 := ku5.size
          refine hK.out _ _ (fun _ => sp3_of q0 q1 q2 hpb1 Bu5.out) ?_
          clear hK K hHeld
          have nekbu5 : u2.heap.size ≠ u1.heap.size := by omega
          replace Hkb := Lib.hid ((ku5.block _ (lt_of_block Hkb.out) nekbu5).trans Hkb.out)
          replace HRG := Lib.hid ((ku5.block nG (by omega) (by omega)).trans HRG.out)
          have HRL : Hid (u5.heap[nL]? = u5.heap[nL]?) := Lib.hid rfl
          clear ku5 He2
          have hHeld := sp3_of q0 q1 q2 hpb1 Bu5.out
          try simp only [Act.put]
          refine wpSk_take (i := 8) (v := ?hvf976758) rfl (by kernel_rfl) (fun _ _ _ h => h) (Or.inl ⟨by rfl, ?hyf976758⟩) (by assumption) ?hrf976758
          case hyf976758 => (intro wS hSw; (try dsimp only at hSw); go_simp; (try with_reducible rfl))
          try simp only [Act.put]
          clear hHeld
          obtain ⟨y0, y1, y2, y3, y4, -, -⟩ := box5 Hkb.out
          obtain ⟨fz0, fz1, fz2, fz3, fz4⟩ := box5f Hkb.out
          have hkl := lt_of_block Hkb.out
          refine wpSk_step (i := 10) (by kernel_rfl) rfl (fun K hK => ?_)
          go_simp
          refine hK.out _ _ (fun h => absurd h (by decide)) ?_
          clear hK K
          refine wpSk_done (by kernel_rfl) ?_ _
          refine NoPanic.normal ?_
          go_wp2_with fail
          go_meet
          exact ⟨u2.heap.size, gA1, lA1, gc1, lc1, rfl, Lib.hid (con2_done rfl hcG hcL RG.out RL.out (by first | exact HRG.out | rfl) (by first | exact HRL.out | rfl) Hkb.out Bu5.out (by omega) (by omega) (by omega) (by omega) (by omega) (by omega) (by omega) (by omega))⟩
      · go_simp
        refine hK.out _ _ (fun _ => sp3_of q0 q1 q2 hpb1 (Bu1.out.alloc (by omega) _)) ?_
        clear hK K hHeld
        obtain ⟨u2, hvu2⟩ : ∃ x, u1.alloc (.cells #[.slice none 0 0, .slice none 0 0, .slice none 0 0, .slice none 0 0, .slice none 0 0] 48) = x := ⟨_, rfl⟩
        rw [hvu2]
        obtain ⟨hkb', bu2, hsau2, hsbu2⟩ := alloc_facts hvu2
        have Bu2 : Hid (Below w1.heap.size w1 u2) := Lib.hid (below_then Bu1.out bu2)
        replace He1 := Lib.hid ((bu2.block _ (lt_of_block He1.out)).trans He1.out)
        have Hkb := Lib.hid hkb'
        clear hvu2 bu2 hkb'
        have hHeld := sp3_of q0 q1 q2 hpb1 Bu2.out
        try simp only [Act.put, layS, layZ, layC]
        refine wpSk_or2 (i := 3) (j := 4) (by kernel_rfl) rfl rfl (fun K hK => ?_) (fun K hK => ?_)
        · refine step_clone (by rfl) _ _ (by rfl) (by rfl) gA p.globals gc (by rfl) He1.out (P1.out.belowA Bu2.out).g3 P1.out.g4 hg5 ?_
          rintro v' u3 ⟨gA1, gc1, nG, rfl, hcG, RG, hnG, hmG, ku3⟩
          have Bu3 : Hid (Below w1.heap.size w1 u3) := Lib.hid (below_kpS Bu2.out ku3 (fun b hb => by omega))
          have hsau3 := ku3.size
          refine hK.out _ _ (fun _ => sp3_of q0 q1 q2 hpb1 Bu3.out) ?_
          clear hK K hHeld
          have nekbu3 : u1.heap.size ≠ u0.heap.size := by omega
          replace Hkb := Lib.hid ((ku3.block _ (lt_of_block Hkb.out) nekbu3).trans Hkb.out)
          have HRG : Hid (u3.heap[nG]? = u3.heap[nG]?) := Lib.hid rfl
          clear ku3 He1
          have hHeld := sp3_of q0 q1 q2 hpb1 Bu3.out
          try simp only [Act.put, layS]
          refine wpSk_step (i := 4) (by kernel_rfl) rfl (fun K hK => ?_)
          go_simp
          refine hK.out _ _ (fun _ => sp3_of q0 q1 q2 hpb1 (Bu3.out.alloc (by omega) _)) ?_
          clear hK K hHeld
          obtain ⟨u4, hvu4⟩ : ∃ x, u3.alloc (.cells #[] 9) = x := ⟨_, rfl⟩
          rw [hvu4]
          obtain ⟨he2', bu4, hsau4, hsbu4⟩ := alloc_facts hvu4
          have Bu4 : Hid (Below w1.heap.size w1 u4) := Lib.hid (below_then Bu3.out bu4)
          replace Hkb := Lib.hid ((bu4.block _ (lt_of_block Hkb.out)).trans Hkb.out)
          replace HRG := Lib.hid ((bu4.block nG (by omega)).trans HRG.out)
          have He2 := Lib.hid he2'
          clear hvu4 bu4 he2'
          have hHeld := sp3_of q0 q1 q2 hpb1 Bu4.out
          try simp only [Act.put, layS, layZ, layC]
          refine wpSk_step (i := 7) (by kernel_rfl) rfl (fun K hK => ?_)
          refine step_clone (by rfl) _ _ (by rfl) (by rfl) lA p.locks lc (by rfl) He2.out (P1.out.belowA Bu4.out).l3 P1.out.l4 hl5 ?_
          rintro v' u5 ⟨lA1, lc1, nL, rfl, hcL, RL, hnL, hmL, ku5⟩
          have Bu5 : Hid (Below w1.heap.size w1 u5) := Lib.hid (below_kpS Bu4.out ku5 (fun b hb => by omega))
          have hsau5 := ku5.size
          refine hK.out _ _ (fun _ => sp3_of q0 q1 q2 hpb1 Bu5.out) ?_
          clear hK K hHeld
          have nekbu5 : u1.heap.size ≠ u3.heap.size := by omega
          replace Hkb := Lib.hid ((ku5.block _ (lt_of_block Hkb.out) nekbu5).trans Hkb.out)
          replace HRG := Lib.hid ((ku5.block nG (by omega) (by omega)).trans HRG.out)
          have HRL : Hid (u5.heap[nL]? = u5.heap[nL]?) := Lib.hid rfl
          clear ku5 He2
          have hHeld := sp3_of q0 q1 q2 hpb1 Bu5.out
          try simp only [Act.put, layS]
          refine wpSk_take (i := 8) (v := ?hvf771838) rfl (by kernel_rfl) (fun _ _ _ h => h) (Or.inl ⟨by rfl, ?hyf771838⟩) (by assumption) ?hrf771838
          case hyf771838 => (intro wS hSw; (try dsimp only at hSw); go_simp; (try with_reducible rfl))
          try simp only [Act.put]
          clear hHeld
          obtain ⟨y0, y1, y2, y3, y4, -, -⟩ := box5 Hkb.out
          obtain ⟨fz0, fz1, fz2, fz3, fz4⟩ := box5f Hkb.out
          have hkl := lt_of_block Hkb.out
          refine wpSk_step (i := 10) (by kernel_rfl) rfl (fun K hK => ?_)
          go_simp
          refine hK.out _ _ (fun h => absurd h (by decide)) ?_
          clear hK K
          refine wpSk_done (by kernel_rfl) ?_ _
          refine NoPanic.normal ?_
          go_wp2_with fail
          go_meet
          exact ⟨u1.heap.size, gA1, lA1, gc1, lc1, rfl, Lib.hid (con2_done rfl hcG hcL RG.out RL.out (by first | exact HRG.out | rfl) (by first | exact HRL.out | rfl) Hkb.out Bu5.out (by omega) (by omega) (by omega) (by omega) (by omega) (by omega) (by omega) (by omega))⟩
        · go_simp
          refine hK.out _ _ (fun _ => sp3_of q0 q1 q2 hpb1 (Bu2.out.alloc (by omega) _)) ?_
          clear hK K hHeld
          obtain ⟨u3, hvu3⟩ : ∃ x, u2.alloc (.cells #[] 9) = x := ⟨_, rfl⟩
          rw [hvu3]
          obtain ⟨he2', bu3, hsau3, hsbu3⟩ := alloc_facts hvu3
          have Bu3 : Hid (Below w1.heap.size w1 u3) := Lib.hid (below_then Bu2.out bu3)
          replace He1 := Lib.hid ((bu3.block _ (lt_of_block He1.out)).trans He1.out)
          replace Hkb := Lib.hid ((bu3.block _ (lt_of_block Hkb.out)).trans Hkb.out)
          have He2 := Lib.hid he2'
          clear hvu3 bu3 he2'
          have hHeld := sp3_of q0 q1 q2 hpb1 Bu3.out
          try simp only [Act.put, layS, layZ, layC]
          refine wpSk_step (i := 3) (by kernel_rfl) rfl (fun K hK => ?_)
          refine step_clone (by rfl) _ _ (by rfl) (by rfl) gA p.globals gc (by rfl) He1.out (P1.out.belowA Bu3.out).g3 P1.out.g4 hg5 ?_
          rintro v' u4 ⟨gA1, gc1, nG, rfl, hcG, RG, hnG, hmG, ku4⟩
          have Bu4 : Hid (Below w1.heap.size w1 u4) := Lib.hid (below_kpS Bu3.out ku4 (fun b hb => by omega))
          have hsau4 := ku4.size
          refine hK.out _ _ (fun _ => sp3_of q0 q1 q2 hpb1 Bu4.out) ?_
          clear hK K hHeld
          have nekbu4 : u1.heap.size ≠ u0.heap.size := by omega
          replace Hkb := Lib.hid ((ku4.block _ (lt_of_block Hkb.out) nekbu4).trans Hkb.out)
          have nee2u4 : u2.heap.size ≠ u0.heap.size := by omega
          replace He2 := Lib.hid ((ku4.block _ (lt_of_block He2.out) nee2u4).trans He2.out)
          have HRG : Hid (u4.heap[nG]? = u4.heap[nG]?) := Lib.hid rfl
          clear ku4 He1
          have hHeld := sp3_of q0 q1 q2 hpb1 Bu4.out
          try simp only [Act.put, layS]
          refine wpSk_step (i := 7) (by kernel_rfl) rfl (fun K hK => ?_)
          refine step_clone (by rfl) _ _ (by rfl) (by rfl) lA p.locks lc (by rfl) He2.out (P1.out.belowA Bu4.out).l3 P1.out.l4 hl5 ?_
          rintro v' u5 ⟨lA1, lc1, nL, rfl, hcL, RL, hnL, hmL, ku5⟩
          have Bu5 : Hid (Below w1.heap.size w1 u5) := Lib.hid (below_kpS Bu4.out ku5 (fun b hb => by omega))
          have hsau5 := ku5.size
          refine hK.out _ _ (fun _ => sp3_of q0 q1 q2 hpb1 Bu5.out) ?_
          clear hK K hHeld
          have nekbu5 : u1.heap.size ≠ u2.heap.size := by omega
          replace Hkb := Lib.hid ((ku5.block _ (lt_of_block Hkb.out) nekbu5).trans Hkb.out)
          replace HRG := Lib.hid ((ku5.block nG (by omega) (by omega)).trans HRG.out)
          have HRL : Hid (u5.heap[nL]? = u5.heap[nL]?) := Lib.hid rfl
          clear ku5 He2
          have hHeld := sp3_of q0 q1 q2 hpb1 Bu5.out
          try simp only [Act.put]
          refine wpSk_take (i := 8) (v := ?hvf988078) rfl (by kernel_rfl) (fun _ _ _ h => h) (Or.inl ⟨by rfl, ?hyf988078⟩) (by assumption) ?hrf988078
          case hyf988078 => (intro wS hSw; (try dsimp only at hSw); go_simp; (try with_reducible rfl))
          try simp only [Act.put]
          clear hHeld
          obtain ⟨y0, y1, y2, y3, y4, -, -⟩ := box5 Hkb.out
          obtain ⟨fz0, fz1, fz2, fz3, fz4⟩ := box5f Hkb.out
          have hkl := lt_of_block Hkb.out
          refine wpSk_step (i := 10) (by kernel_rfl) rfl (fun K hK => ?_)
          go_simp
          refine hK.out _ _ (fun h => absurd h (by decide)) ?_
          clear hK K
          refine wpSk_done (by kernel_rfl) ?_ _
          refine NoPanic.normal ?_
          go_wp2_with fail
          go_meet
          exact ⟨u1.heap.size, gA1, lA1, gc1, lc1, rfl, Lib.hid (con2_done rfl hcG hcL RG.out RL.out (by first | exact HRG.out | rfl) (by first | exact HRL.out | rfl) Hkb.out Bu5.out (by omega) (by omega) (by omega) (by omega) (by omega) (by omega) (by omega) (by omega))⟩
    · go_simp
      refine hK.out _ _ (fun _ => sp3_of q0 q1 q2 hpb1 (Bu0.out.alloc (by omega) _)) ?_
      clear hK K hHeld
      obtain ⟨u1, hvu1⟩ : ∃ x, u0.alloc (.cells #[] 9) = x := ⟨_, rfl⟩
      rw [hvu1]
      obtain ⟨he2', bu1, hsau1, hsbu1⟩ := alloc_facts hvu1
      have Bu1 : Hid (Below w1.heap.size w1 u1) := Lib.hid (below_then Bu0.out bu1)
      have He2 := Lib.hid he2'
      clear hvu1 bu1 he2'
      have hHeld := sp3_of q0 q1 q2 hpb1 Bu1.out
      try simp only [Act.put, layS, layZ, layC]
      refine wpSk_or2 (i := 0) (j := 9) (by kernel_rfl) rfl rfl (fun K hK => ?_) (fun K hK => ?_)
      · go_simp
        refine hK.out _ _ (fun _ => sp3_of q0 q1 q2 hpb1 (Bu1.out.alloc (by omega) _)) ?_
        clear hK K hHeld
        obtain ⟨u2, hvu2⟩ : ∃ x, u1.alloc (.cells #[] 9) = x := ⟨_, rfl⟩
        rw [hvu2]
        obtain ⟨he1', bu2, hsau2, hsbu2⟩ := alloc_facts hvu2
        have Bu2 : Hid (Below w1.heap.size w1 u2) := Lib.hid (below_then Bu1.out bu2)
        replace He2 := Lib.hid ((bu2.block _ (lt_of_block He2.out)).trans He2.out)
        have He1 := Lib.hid he1'
        clear hvu2 bu2 he1'
        have hHeld := sp3_of q0 q1 q2 hpb1 Bu2.out
        try simp only [Act.put, layS, layZ, layC]
        refine wpSk_or2 (i := 3) (j := 9) (by kernel_rfl) rfl rfl (fun K hK => ?_) (fun K hK => ?_)
        · refine step_clone (by rfl) _ _ (by rfl) (by rfl) gA p.globals gc (by rfl) He1.out (P1.out.belowA Bu2.out).g3 P1.out.g4 hg5 ?_
          rintro v' u3 ⟨gA1, gc1, nG, rfl, hcG, RG, hnG, hmG, ku3⟩
          have Bu3 : Hid (Below w1.heap.size w1 u3) := Lib.hid (below_kpS Bu2.out ku3 (fun b hb => by omega))
          have hsau3 := ku3.size
          refine hK.out _ _ (fun _ => sp3_of q0 q1 q2 hpb1 Bu3.out) ?_
          clear hK K hHeld
          have nee2u3 : u0.heap.size ≠ u1.heap.size := by omega
          replace He2 := Lib.hid ((ku3.block _ (lt_of_block He2.out) nee2u3).trans He2.out)
          have HRG : Hid (u3.heap[nG]? = u3.heap[nG]?) := Lib.hid rfl
          clear ku3 He1
          have hHeld := sp3_of q0 q1 q2 hpb1 Bu3.out
          try simp only [Act.put, layS]
          refine wpSk_or2 (i := 7) (j := 9) (by kernel_rfl) rfl rfl (fun K hK => ?_) (fun K hK => ?_)
          · refine step_clone (by rfl) _ _ (by rfl) (by rfl) lA p.locks lc (by rfl) He2.out (P1.out.belowA Bu3.out).l3 P1.out.l4 hl5 ?_
            rintro v' u4 ⟨lA1, lc1, nL, rfl, hcL, RL, hnL, hmL, ku4⟩
            have Bu4 : Hid (Below w1.heap.size w1 u4) := Lib.hid (below_kpS Bu3.out ku4 (fun b hb => by omega))
            have hsau4 := ku4.size
            refine hK.out _ _ (fun _ => sp3_of q0 q1 q2 hpb1 Bu4.out) ?_
            clear hK K hHeld
            replace HRG := Lib.hid ((ku4.block nG (by omega) (by omega)).trans HRG.out)
            have HRL : Hid (u4.heap[nL]? = u4.heap[nL]?) := Lib.hid rfl
            clear ku4 He2
            have hHeld := sp3_of q0 q1 q2 hpb1 Bu4.out
            try simp only [Act.put]
            refine wpSk_take (i := 8) (v := ?hvf503498) rfl (by kernel_rfl) (fun _ _ _ h => h) (Or.inl ⟨by rfl, ?hyf503498⟩) (by assumption) ?hrf503498
            case hyf503498 => (intro wS hSw; (try dsimp only at hSw); go_simp; (try with_reducible rfl))
            try simp only [Act.put]
            refine wpSk_step (i := 9) (by kernel_rfl) rfl (fun K hK => ?_)
            go_simp
            refine hK.out _ _ (fun _ => sp3_of q0 q1 q2 hpb1 (Bu4.out.alloc (by omega) _)) ?_
            clear hK K hHeld
            obtain ⟨u5, hvu5⟩ : ∃ x, u4.alloc (.cells #[.slice none 0 0, .slice none 0 0, .slice none 0 0, .slice none 0 0, .slice none 0 0] 48) = x := ⟨_, rfl⟩
            rw [hvu5]
            obtain ⟨hkb', bu5, hsau5, hsbu5⟩ := alloc_facts hvu5
            have Bu5 : Hid (Below w1.heap.size w1 u5) := Lib.hid (below_then Bu4.out bu5)
            replace HRG := Lib.hid ((bu5.block nG (by omega)).trans HRG.out)
            replace HRL := Lib.hid ((bu5.block nL (by omega)).trans HRL.out)
            have Hkb := Lib.hid hkb'
            clear hvu5 bu5 hkb'
            have hHeld := sp3_of q0 q1 q2 hpb1 Bu5.out
            try simp only [Act.put, layS, layZ, layC]
            clear hHeld
            obtain ⟨y0, y1, y2, y3, y4, -, -⟩ := box5 Hkb.out
            obtain ⟨fz0, fz1, fz2, fz3, fz4⟩ := box5f Hkb.out
            have hkl := lt_of_block Hkb.out
            refine wpSk_step (i := 10) (by kernel_rfl) rfl (fun K hK => ?_)
            go_simp
            refine hK.out _ _ (fun h => absurd h (by decide)) ?_
            clear hK K
            refine wpSk_done (by kernel_rfl) ?_ _
            refine NoPanic.normal ?_
            go_wp2_with fail
            go_meet
            exact ⟨u4.heap.size, gA1, lA1, gc1, lc1, rfl, Lib.hid (con2_done rfl hcG hcL RG.out RL.out (by first | exact HRG.out | rfl) (by first | exact HRL.out | rfl) Hkb.out Bu5.out (by omega) (by omega) (by omega) (by omega) (by omega) (by omega) (by omega) (by omega))⟩
          · go_simp
            refine hK.out _ _ (fun _ => sp3_of q0 q1 q2 hpb1 (Bu3.out.alloc (by omega) _)) ?_
            clear hK K hHeld
            obtain ⟨u4, hvu4⟩ : ∃ x, u3.alloc (.cells #[.slice none 0 0, .slice none 0 0, .slice none 0 0, .slice none 0 0, .slice none 0 0] 48) = x := ⟨_, rfl⟩
            rw [hvu4]
            obtain ⟨hkb', bu4, hsau4, hsbu4⟩ := alloc_facts hvu4
            have Bu4 : Hid (Below w1.heap.size w1 u4) := Lib.hid (below_then Bu3.out bu4)
            replace He2 := Lib.hid ((bu4.block _ (lt_of_block He2.out)).trans He2.out)
            replace HRG := Lib.hid ((bu4.block nG (by omega)).trans HRG.out)
            have Hkb := Lib.hid hkb'
            clear hvu4 bu4 hkb'
            have hHeld := sp3_of q0 q1 q2 hpb1 Bu4.out
            try simp only [Act.put, layS, layZ, layC]
            refine wpSk_step (i := 7) (by kernel_rfl) rfl (fun K hK => ?_)
            refine step_clone (by rfl) _ _ (by rfl) (by rfl) lA p.locks lc (by rfl) He2.out (P1.out.belowA Bu4.out).l3 P1.out.l4 hl5 ?_
            rintro v' u5 ⟨lA1, lc1, nL, rfl, hcL, RL, hnL, hmL, ku5⟩
            have Bu5 : Hid (Below w1.heap.size w1 u5) := Lib.hid (below_kpS Bu4.out ku5 (fun b hb => by omega))
            have hsau5 := ku5.size
            refine hK.out _ _ (fun _ => sp3_of q0 q1 q2 hpb1 Bu5.out) ?_
            clear hK K hHeld
            have nekbu5 : u3.heap.size ≠ u0.heap.size := by omega
            replace Hkb := Lib.hid ((ku5.block _ (lt_of_block Hkb.out) nekbu5).trans Hkb.out)
            replace HRG := Lib.hid ((ku5.block nG (by omega) (by omega)).trans HRG.out)
            have HRL : Hid (u5.heap[nL]? = u5.heap[nL]?) := Lib.hid rfl
            clear ku5 He2
            have hHeld := sp3_of q0 q1 q2 hpb1 Bu5.out
            try simp only [Act.put, layS]
            refine wpSk_take (i := 8) (v := ?hvf814298) rfl (by kernel_rfl) (fun _ _ _ h => h) (Or.inl ⟨by rfl, ?hyf814298⟩) (by assumption) ?hrf814298
            case hyf814298 => (intro wS hSw; (try dsimp only at hSw); go_simp; (try with_reducible rfl))
            try simp only [Act.put]
            clear hHeld
            obtain ⟨y0, y1, y2, y3, y4, -, -⟩ := box5 Hkb.out
            obtain ⟨fz0, fz1, fz2, fz3, fz4⟩ := box5f Hkb.out
            have hkl := lt_of_block Hkb.out
            refine wpSk_step (i := 10) (by kernel_rfl) rfl (fun K hK => ?_)
            go_simp
            refine hK.out _ _ (fun h => absurd h (by decide)) ?_
            clear hK K
            refine wpSk_done (by kernel_rfl) ?_ _
            refine NoPanic.normal ?_
            go_wp2_with fail
            go_meet
            exact ⟨u3.heap.size, gA1, lA1, gc1, lc1, rfl, Lib.hid (con2_done rfl hcG hcL RG.out RL.out (by first | exact HRG.out | rfl) (by first | exact HRL.out | rfl) Hkb.out Bu5.out (by omega) (by omega) (by omega) (by omega) (by omega) (by omega) (by omega) (by omega))⟩
        · go_simp
          refine hK.out _ _ (fun _ => sp3_of q0 q1 q2 hpb1 (Bu2.out.alloc (by omega) _)) ?_
          clear hK K hHeld
          obtain ⟨u3, hvu3⟩ : ∃ x, u2.alloc (.cells #[.slice none 0 0, .slice none 0 0, .slice none 0 0, .slice none 0 0, .slice none 0 0] 48) = x := ⟨_, rfl⟩
          rw [hvu3]
          obtain ⟨hkb', bu3, hsau3, hsbu3⟩ := alloc_facts hvu3
          have Bu3 : Hid (Below w1.heap.size w1 u3) := Lib.hid (below_then Bu2.out bu3)
          replace He2 := Lib.hid ((bu3.block _ (lt_of_block He2.out)).trans He2.out)
          replace He1 := Lib.hid ((bu3.block _ (lt_of_block He1.out)).trans He1.out)
          have Hkb := Lib.hid hkb'
          clear hvu3 bu3 hkb'
          have hHeld := sp3_of q0 q1 q2 hpb1 Bu3.out
          try simp only [Act.put, layS, layZ, layC]
          refine wpSk_step (i := 3) (by kernel_rfl) rfl (fun K hK => ?_)
          refine step_clone (by rfl) _ _ (by rfl) (by rfl) gA p.globals gc (by rfl) He1.out (P1.out.belowA Bu3.out).g3 P1.out.g4 hg5 ?_
          rintro v' u4 ⟨gA1, gc1, nG, rfl, hcG, RG, hnG, hmG, ku4⟩
          have Bu4 : Hid (Below w1.heap.size w1 u4) := Lib.hid (below_kpS Bu3.out ku4 (fun b hb => by omega))
          have hsau4 := ku4.size
          refine hK.out _ _ (fun _ => sp3_of q0 q1 q2 hpb1 Bu4.out) ?_
          clear hK K hHeld
          have nee2u4 : u0.heap.size ≠ u1.heap.size := by omega
          replace He2 := Lib.hid ((ku4.block _ (lt_of_block He2.out) nee2u4).trans He2.out)
          have nekbu4 : u2.heap.size ≠ u1.heap.size := by omega
          replace Hkb := Lib.hid ((ku4.block _ (lt_of_block Hkb.out) nekbu4).trans Hkb.out)
          have HRG : Hid (u4.heap[nG]? = u4.heap[nG]?) := Lib.hid rfl
          clear ku4 He1
          have hHeld := sp3_of q0 q1 q2 hpb1 Bu4.out
          try simp only [Act.put, layS]
          refine wpSk_step (i := 7) (by kernel_rfl) rfl (fun K hK => ?_)
          refine step_clone (by rfl) _ _ (by rfl) (by rfl) lA p.locks lc (by rfl) He2.out (P1.out.belowA Bu4.out).l3 P1.out.l4 hl5 ?_
          rintro v' u5 ⟨lA1, lc1, nL, rfl, hcL, RL, hnL, hmL, ku5⟩
          have Bu5 : Hid (Below w1.heap.size w1 u5) := Lib.hid (below_kpS Bu4.out ku5 (fun b hb => by omega))
          have hsau5 := ku5.size
          refine hK.out _ _ (fun _ => sp3_of q0 q1 q2 hpb1 Bu5.out) ?_
          clear hK K hHeld
          have nekbu5 : u2.heap.size ≠ u0.heap.size := by omega
          replace Hkb := Lib.hid ((ku5.block _ (lt_of_block Hkb.out) nekbu5).trans Hkb.out)
          replace HRG := Lib.hid ((ku5.block nG (by omega) (by omega)).trans HRG.out)
          have HRL : Hid (u5.heap[nL]? = u5.heap[nL]?) := Lib.hid rfl
          clear ku5 He2
          have hHeld := sp3_of q0 q1 q2 hpb1 Bu5.out
          try simp only [Act.put]
          refine wpSk_take (i := 8) (v := ?hvf580558) rfl (by kernel_rfl) (fun _ _ _ h => h) (Or.inl ⟨by rfl, ?hyf580558⟩) (by assumption) ?hrf580558
          case hyf580558 => (intro wS hSw; (try dsimp only at hSw); go_simp; (try with_reducible rfl))
          try simp only [Act.put]
          clear hHeld
          obtain ⟨y0, y1, y2, y3, y4, -, -⟩ := box5 Hkb.out
          obtain ⟨fz0, fz1, fz2, fz3, fz4⟩ := box5f Hkb.out
          have hkl := lt_of_block Hkb.out
          refine wpSk_step (i := 10) (by kernel_rfl) rfl (fun K hK => ?_)
          go_simp
          refine hK.out _ _ (fun h => absurd h (by decide)) ?_
          clear hK K
          refine wpSk_done (by kernel_rfl) ?_ _
          refine NoPanic.normal ?_
          go_wp2_with fail
          go_meet
          exact ⟨u2.heap.size, gA1, lA1, gc1, lc1, rfl, Lib.hid (con2_done rfl hcG hcL RG.out RL.out (by first | exact HRG.out | rfl) (by first | exact HRL.out | rfl) Hkb.out Bu5.out (by omega) (by omega) (by omega) (by omega) (by omega) (by omega) (by omega) (by omega))⟩
      · go_simp
        refine hK.out _ _ (fun _ => sp3_of q0 q1 q2 hpb1 (Bu1.out.alloc (by omega) _)) ?_
        clear hK K hHeld
        obtain ⟨u2, hvu2⟩ : ∃ x, u1.alloc (.cells #[.slice none 0 0, .slice none 0 0, .slice none 0 0, .slice none 0 0, .slice none 0 0] 48) = x := ⟨_, rfl⟩
        rw [hvu2]
        obtain ⟨hkb', bu2, hsau2, hsbu2⟩ := alloc_facts hvu2
        have Bu2 : Hid (Below w1.heap.size w1 u2) := Lib.hid (below_then Bu1.out bu2)
        replace He2 := Lib.hid ((bu2.block _ (lt_of_block He2.out)).trans He2.out)
        have Hkb := Lib.hid hkb'
        clear hvu2 bu2 hkb'
        have hHeld := sp3_of q0 q1 q2 hpb1 Bu2.out
        try simp only [Act.put, layS, layZ, layC]
        refine wpSk_step (i := 0) (by kernel_rfl) rfl (fun K hK => ?_)
        go_simp
        refine hK.out _ _ (fun _ => sp3_of q0 q1 q2 hpb1 (Bu2.out.alloc (by omega) _)) ?_
        clear hK K hHeld
        obtain ⟨u3, hvu3⟩ : ∃ x, u2.alloc (.cells #[] 9) = x := ⟨_, rfl⟩
        rw [hvu3]
        obtain ⟨he1', bu3, hsau3, hsbu3⟩ := alloc_facts hvu3
        have Bu3 : Hid (Below w1.heap.size w1 u3) := Lib.hid (below_then Bu2.out bu3)
        replace He2 := Lib.hid ((bu3.block _ (lt_of_block He2.out)).trans He2.out)
        replace Hkb := Lib.hid ((bu3.block _ (lt_of_block Hkb.out)).trans Hkb.out)
        have He1 := Lib.hid he1'
        clear hvu3 bu3 he1'
        have hHeld := sp3_of q0 q1 q2 hpb1 Bu3.out
        try simp only [Act.put, layS, layZ, layC]
        refine wpSk_step (i := 3) (by kernel_rfl) rfl (fun K hK => ?_)
        refine step_clone (by rfl) _ _ (by rfl) (by rfl) gA p.globals gc (by rfl) He1.out (P1.out.belowA Bu3.out).g3 P1.out.g4 hg5 ?_
        rintro v' u4 ⟨gA1, gc1, nG, rfl, hcG, RG, hnG, hmG, ku4⟩
        have Bu4 : Hid (Below w1.heap.size w1 u4) := Lib.hid (below_kpS Bu3.out ku4 (fun b hb => by omega))
        have hsau4 := ku4.size
        refine hK.out _ _ (fun _ => sp3_of q0 q1 q2 hpb1 Bu4.out) ?_
        clear hK K hHeld
        have nee2u4 : u0.heap.size ≠ u2.heap.size := by omega
        replace He2 := Lib.hid ((ku4.block _ (lt_of_block He2.out) nee2u4).trans He2.out)
        have nekbu4 : u1.heap.size ≠ u2.heap.size := by omega
        replace Hkb := Lib.hid ((ku4.block _ (lt_of_block Hkb.out) nekbu4).trans Hkb.out)
        have HRG : Hid (u4.heap[nG]? = u4.heap[nG]?) := Lib.hid rfl
        clear ku4 He1
        have hHeld := sp3_of q0 q1 q2 hpb1 Bu4.out
        try simp only [Act.put, layS]
        refine wpSk_step (i := 7) (by kernel_rfl) rfl (fun K hK => ?_)
        refine step_clone (by rfl) _ _ (by rfl) (by rfl) lA p.locks lc (by rfl) He2.out (P1.out.belowA Bu4.out).l3 P1.out.l4 hl5 ?_
        rintro v' u5 ⟨lA1, lc1, nL, rfl, hcL, RL, hnL, hmL, ku5⟩
        have Bu5 : Hid (Below w1.heap.size w1 u5) := Lib.hid (below_kpS Bu4.out ku5 (fun b hb => by omega))
        have hsau5 := ku5.size
        refine hK.out _ _ (fun _ => sp3_of q0 q1 q2 hpb1 Bu5.out) ?_
        clear hK K hHeld
        have nekbu5 : u1.heap.size ≠ u0.heap.size := by omega
        replace Hkb := Lib.hid ((ku5.block _ (lt_of_block Hkb.out) nekbu5).trans Hkb.out)
        replace HRG := Lib.hid ((ku5.block nG (by omega) (by omega)).trans HRG.out)
        have HRL : Hid (u5.heap[nL]? = u5.heap[nL]?) := Lib.hid rfl
        clear ku5 He2
        have hHeld := sp3_of q0 q1 q2 hpb1 Bu5.out
        try simp only [Act.put]
        refine wpSk_take (i := 8) (v := ?hvf853908) rfl (by kernel_rfl) (fun _ _ _ h => h) (Or.inl ⟨by rfl, ?hyf853908⟩) (by assumption) ?hrf853908
        case hyf853908 => (intro wS hSw; (try dsimp only at hSw); go_simp; (try with_reducible rfl))
        try simp only [Act.put]
        clear hHeld
        obtain ⟨y0, y1, y2, y3, y4, -, -⟩ := box5 Hkb.out
        obtain ⟨fz0, fz1, fz2, fz3, fz4⟩ := box5f Hkb.out
        have hkl := lt_of_block Hkb.out
        refine wpSk_step (i := 10) (by kernel_rfl) rfl (fun K hK => ?_)
        go_simp
        refine hK.out _ _ (fun h => absurd h (by decide)) ?_
        clear hK K
        refine wpSk_done (by kernel_rfl) ?_ _
        refine NoPanic.normal ?_
        go_wp2_with fail
        go_meet
        exact ⟨u1.heap.size, gA1, lA1, gc1, lc1, rfl, Lib.hid (con2_done rfl hcG hcL RG.out RL.out (by first | exact HRG.out | rfl) (by first | exact HRL.out | rfl) Hkb.out Bu5.out (by omega) (by omega) (by omega) (by omega) (by omega) (by omega) (by omega) (by omega))⟩
    · go_simp
      refine hK.out _ _ (fun _ => sp3_of q0 q1 q2 hpb1 (Bu0.out.alloc (by omega) _)) ?_
      clear hK K hHeld
      obtain ⟨u1, hvu1⟩ : ∃ x, u0.alloc (.cells #[.slice none 0 0, .slice none 0 0, .slice none 0 0, .slice none 0 0, .slice none 0 0] 48) = x := ⟨_, rfl⟩
      rw [hvu1]
      obtain ⟨hkb', bu1, hsau1, hsbu1⟩ := alloc_facts hvu1
      have Bu1 : Hid (Below w1.heap.size w1 u1) := Lib.hid (below_then Bu0.out bu1)
      have Hkb := Lib.hid hkb'
      clear hvu1 bu1 hkb'
      have hHeld := sp3_of q0 q1 q2 hpb1 Bu1.out
      try simp only [Act.put, layS, layZ, layC]
      refine wpSk_or2 (i := 0) (j := 4) (by kernel_rfl) rfl rfl (fun K hK => ?_) (fun K hK => ?_)
      · go_simp
        refine hK.out _ _ (fun _ => sp3_of q0 q1 q2 hpb1 (Bu1.out.alloc (by omega) _)) ?_
        clear hK K hHeld
        obtain ⟨u2, hvu2⟩ : ∃ x, u1.alloc (.cells #[] 9) = x := ⟨_, rfl⟩
        rw [hvu2]
        obtain ⟨he1', bu2, hsau2, hsbu2⟩ := alloc_facts hvu2
        have Bu2 : Hid (Below w1.heap.size w1 u2) := Lib.hid (below_then Bu1.out bu2)
        replace Hkb := Lib.hid ((bu2.block _ (lt_of_block Hkb.out)).trans Hkb.out)
        have He1 := Lib.hid he1'
        clear hvu2 bu2 he1'
        have hHeld := sp3_of q0 q1 q2 hpb1 Bu2.out
        try simp only [Act.put, layS, layZ, layC]
        refine wpSk_or2 (i := 3) (j := 4) (by kernel_rfl) rfl rfl (fun K hK => ?_) (fun K hK => ?_)
        · refine step_clone (by rfl) _ _ (by rfl) (by rfl) gA p.globals gc (by rfl) He1.out (P1.out.belowA Bu2.out).g3 P1.out.g4 hg5 ?_
          rintro v' u3 ⟨gA1, gc1, nG, rfl, hcG, RG, hnG, hmG, ku3⟩
          have Bu3 : Hid (Below w1.heap.size w1 u3) := Lib.hid (below_kpS Bu2.out ku3 (fun b hb => by omega))
          have hsau3 := ku3.size
          refine hK.out _ _ (fun _ => sp3_of q0 q1 q2 hpb1 Bu3.out) ?_
          clear hK K hHeld
          have nekbu3 : u0.heap.size ≠ u1.heap.size := by omega
          replace Hkb := Lib.hid ((ku3.block _ (lt_of_block Hkb.out) nekbu3).trans Hkb.out)
          have HRG : Hid (u3.heap[nG]? = u3.heap[nG]?) := Lib.hid rfl
          clear ku3 He1
          have hHeld := sp3_of q0 q1 q2 hpb1 Bu3.out
          try simp only [Act.put, layS]
          refine wpSk_step (i := 4) (by kernel_rfl) rfl (fun K hK => ?_)
          go_simp
          refine hK.out _ _ (fun _ => sp3_of q0 q1 q2 hpb1 (Bu3.out.alloc (by omega) _)) ?_
          clear hK K hHeld
          obtain ⟨u4, hvu4⟩ : ∃ x, u3.alloc (.cells #[] 9) = x := ⟨_, rfl⟩
          rw [hvu4]
          obtain ⟨he2', bu4, hsau4, hsbu4⟩ := alloc_facts hvu4
          have Bu4 : Hid (Below w1.heap.size w1 u4) := Lib.hid (below_then Bu3.out bu4)
          replace Hkb := Lib.hid ((bu4.block _ (lt_of_block Hkb.out)).trans Hkb.out)
          replace HRG := Lib.hid ((bu4.block nG (by omega)).trans HRG.out)
          have He2 := Lib.hid he2'
          clear hvu4 bu4 he2'
          have hHeld := sp3_of q0 q1 q2 hpb1 Bu4.out
          try simp only [Act.put, layS, layZ, layC]
          refine wpSk_step (i := 7) (by kernel_rfl) rfl (fun K hK => ?_)
          refine step_clone (by rfl) _ _ (by rfl) (by rfl) lA p.locks lc (by rfl) He2.out (P1.out.belowA Bu4.out).l3 P1.out.l4 hl5 ?_
          rintro v' u5 ⟨lA1, lc1, nL, rfl, hcL, RL, hnL, hmL, ku5⟩
          have Bu5 : Hid (Below w1.heap.size w1 u5) := Lib.hid (below_kpS Bu4.out ku5 (fun b hb => by omega))
          have hsau5 := ku5.size
          refine hK.out _ _ (fun _ => sp3_of q0 q1 q2 hpb1 Bu5.out) ?_
          clear hK K hHeld
          have nekbu5 : u0.heap.size ≠ u3.heap.size := by omega
          replace Hkb := Lib.hid ((ku5.block _ (lt_of_block Hkb.out) nekbu5).trans Hkb.out)
          replace HRG := Lib.hid ((ku5.block nG (by omega) (by omega)).trans HRG.out)
          have HRL : Hid (u5.heap[nL]? = u5.heap[nL]?) := Lib.hid rfl
          clear ku5 He2
          have hHeld := sp3_of q0 q1 q2 hpb1 Bu5.out
          try simp only [Act.put, layS]
          refine wpSk_take (i := 8) (v := ?hvf47748) rfl (by kernel_rfl) (fun _ _ _ h => h) (Or.inl ⟨by rfl, ?hyf47748⟩) (by assumption) ?hrf47748
          case hyf47748 => (intro wS hSw; (try dsimp only at hSw); go_simp; (try with_reducible rfl))
          try simp only [Act.put]
          clear hHeld
          obtain ⟨y0, y1, y2, y3, y4, -, -⟩ := box5 Hkb.out
          obtain ⟨fz0, fz1, fz2, fz3, fz4⟩ := box5f Hkb.out
          have hkl := lt_of_block Hkb.out
          refine wpSk_step (i := 10) (by kernel_rfl) rfl (fun K hK => ?_)
          go_simp
          refine hK.out _ _ (fun h => absurd h (by decide)) ?_
          clear hK K
          refine wpSk_done (by kernel_rfl) ?_ _
          refine NoPanic.normal ?_
          go_wp2_with fail
          go_meet
          exact ⟨u0.heap.size, gA1, lA1, gc1, lc1, rfl, Lib.hid (con2_done rfl hcG hcL RG.out RL.out (by first | exact HRG.out | rfl) (by first | exact HRL.out | rfl) Hkb.out Bu5.out (by omega) (by omega) (by omega) (by omega) (by omega) (by omega) (by omega) (by omega))⟩
        · go_simp
          refine hK.out _ _ (fun _ => sp3_of q0 q1 q2 hpb1 (Bu2.out.alloc (by omega) _)) ?_
          clear hK K hHeld
          obtain ⟨u3, hvu3⟩ : ∃ x, u2.alloc (.cells #[] 9) = x := ⟨_, rfl⟩
          rw [hvu3]
          obtain ⟨he2', bu3, hsau3, hsbu3⟩ := alloc_facts hvu3
          have Bu3 : Hid (Below w1.heap.size w1 u3) := Lib.hid (below_then Bu2.out bu3)
          replace Hkb := Lib.hid ((bu3.block _ (lt_of_block Hkb.out)).trans Hkb.out)
          replace He1 := Lib.hid ((bu3.block _ (lt_of_block He1.out)).trans He1.out)
          have He2 := Lib.hid he2'
          clear hvu3 bu3 he2'
          have hHeld := sp3_of q0 q1 q2 hpb1 Bu3.out
          try simp only [Act.put, layS, layZ, layC]
          refine wpSk_step (i := 3) (by kernel_rfl) rfl (fun K hK => ?_)
          refine step_clone (by rfl) _ _ (by rfl) (by rfl) gA p.globals gc (by rfl) He1.out (P1.out.belowA Bu3.out).g3 P1.out.g4 hg5 ?_
          rintro v' u4 ⟨gA1, gc1, nG, rfl, hcG, RG, hnG, hmG, ku4⟩
          have Bu4 : Hid (Below w1.heap.size w1 u4) := Lib.hid (below_kpS Bu3.out ku4 (fun b hb => by omega))
          have hsau4 := ku4.size
          refine hK.out _ _ (fun _ => sp3_of q0 q1 q2 hpb1 Bu4.out) ?_
          clear hK K hHeld
          have nekbu4 : u0.heap.size ≠ u1.heap.size := by omega
          replace Hkb := Lib.hid ((ku4.block _ (lt_of_block Hkb.out) nekbu4).trans Hkb.out)
          have nee2u4 : u2.heap.size ≠ u1.heap.size := by omega
          replace He2 := Lib.hid ((ku4.block _ (lt_of_block He2.out) nee2u4).trans He2.out)
          have HRG : Hid (u4.heap[nG]? = u4.heap[nG]?) := Lib.hid rfl
          clear ku4 He1
          have hHeld := sp3_of q0 q1 q2 hpb1 Bu4.out
          try simp only [Act.put, layS]
          refine wpSk_step (i := 7) (by kernel_rfl) rfl (fun K hK => ?_)
          refine step_clone (by rfl) _ _ (by rfl) (by rfl) lA p.locks lc (by rfl) He2.out (P1.out.belowA Bu4.out).l3 P1.out.l4 hl5 ?_
          rintro v' u5 ⟨lA1, lc1, nL, rfl, hcL, RL, hnL, hmL, ku5⟩
          have Bu5 : Hid (Below w1.heap.size w1 u5) := Lib.hid (below_kpS Bu4.out ku5 (fun b hb => by omega))
          have hsau5 := ku5.size
          refine hK.out _ _ (fun _ => sp3_of q0 q1 q2 hpb1 Bu5.out) ?_
          clear hK K hHeld
          have nekbu5 : u0.heap.size ≠ u2.heap.size := by omega
          replace Hkb := Lib.hid ((ku5.block _ (lt_of_block Hkb.out) nekbu5).trans Hkb.out)
          replace HRG := Lib.hid ((ku5.block nG (by omega) (by omega)).trans HRG.out)
          have HRL : Hid (u5.heap[nL]? = u5.heap[nL]?) := Lib.hid rfl
          clear ku5 He2
          have hHeld := sp3_of q0 q1 q2 hpb1 Bu5.out
          try simp only [Act.put]
          refine wpSk_take (i := 8) (v := ?hvf572158) rfl (by kernel_rfl) (fun _ _ _ h => h) (Or.inl ⟨by rfl, ?hyf572158⟩) (by assumption) ?hrf572158
          case hyf572158 => (intro wS hSw; (try dsimp only at hSw); go_simp; (try with_reducible rfl))
          try simp only [Act.put]
          clear hHeld
          obtain ⟨y0, y1, y2, y3, y4, -, -⟩ := box5 Hkb.out
          obtain ⟨fz0, fz1, fz2, fz3, fz4⟩ := box5f Hkb.out
          have hkl := lt_of_block Hkb.out
          refine wpSk_step (i := 10) (by kernel_rfl) rfl (fun K hK => ?_)
          go_simp
          refine hK.out _ _ (fun h => absurd h (by decide)) ?_
          clear hK K
          refine wpSk_done (by kernel_rfl) ?_ _
          refine NoPanic.normal ?_
          go_wp2_with fail
          go_meet
          exact ⟨u0.heap.size, gA1, lA1, gc1, lc1, rfl, Lib.hid (con2_done rfl hcG hcL RG.out RL.out (by first | exact HRG.out | rfl) (by first | exact HRL.out | rfl) Hkb.out Bu5.out (by omega) (by omega) (by omega) (by omega) (by omega) (by omega) (by omega) (by omega))⟩
      · go_simp
        refine hK.out _ _ (fun _ => sp3_of q0 q1 q2 hpb1 (Bu1.out.alloc (by omega) _)) ?_
        clear hK K hHeld
        obtain ⟨u2, hvu2⟩ : ∃ x, u1.alloc (.cells #[] 9) = x := ⟨_, rfl⟩
        rw [hvu2]
        obtain ⟨he2', bu2, hsau2, hsbu2⟩ := alloc_facts hvu2
        have Bu2 : Hid (Below w1.heap.size w1 u2) := Lib.hid (below_then Bu1.out bu2)
        replace Hkb := Lib.hid ((bu2.block _ (lt_of_block Hkb.out)).trans Hkb.out)
        have He2 := Lib.hid he2'
        clear hvu2 bu2 he2'
        have hHeld := sp3_of q0 q1 q2 hpb1 Bu2.out
        try simp only [Act.put, layS, layZ, layC]
        refine wpSk_step (i := 0) (by kernel_rfl) rfl (fun K hK => ?_)
        go_simp
        refine hK.out _ _ (fun _ => sp3_of q0 q1 q2 hpb1 (Bu2.out.alloc (by omega) _)) ?_
        clear hK K hHeld
        obtain ⟨u3, hvu3⟩ : ∃ x, u2.alloc (.cells #[] 9) = x := ⟨_, rfl⟩
        rw [hvu3]
        obtain ⟨he1', bu3, hsau3, hsbu3⟩ := alloc_facts hvu3
        have Bu3 : Hid (Below w1.heap.size w1 u3) := Lib.hid (below_then Bu2.out bu3)
        replace Hkb := Lib.hid ((bu3.block _ (lt_of_block Hkb.out)).trans Hkb.out)
        replace He2 := Lib.hid ((bu3.block _ (lt_of_block He2.out)).trans He2.out)
        have He1 := Lib.hid he1'
        clear hvu3 bu3 he1'
        have hHeld := sp3_of q0 q1 q2 hpb1 Bu3.out
        try simp only [Act.put, layS, layZ, layC]
        refine wpSk_step (i := 3) (by kernel_rfl) rfl (fun K hK => ?_)
        refine step_clone (by rfl) _ _ (by rfl) (by rfl) gA p.globals gc (by rfl) He1.out (P1.out.belowA Bu3.out).g3 P1.out.g4 hg5 ?_
        rintro v' u4 ⟨gA1, gc1, nG, rfl, hcG, RG, hnG, hmG, ku4⟩
        have Bu4 : Hid (Below w1.heap.size w1 u4) := Lib.hid (below_kpS Bu3.out ku4 (fun b hb => by omega))
        have hsau4 := ku4.size
        refine hK.out _ _ (fun _ => sp3_of q0 q1 q2 hpb1 Bu4.out) ?_
        clear hK K hHeld
        have nekbu4 : u0.heap.size ≠ u2.heap.size := by omega
        replace Hkb := Lib.hid ((ku4.block _ (lt_of_block Hkb.out) nekbu4).trans Hkb.out)
        have nee2u4 : u1.heap.size ≠ u2.heap.size := by omega
        replace He2 := Lib.hid ((ku4.block _ (lt_of_block He2.out) nee2u4).trans He2.out)
        have HRG : Hid (u4.heap[nG]? = u4.heap[nG]?) := Lib.hid rfl
        clear ku4 He1
        have hHeld := sp3_of q0 q1 q2 hpb1 Bu4.out
        try simp only [Act.put, layS]
        refine wpSk_step (i := 7) (by kernel_rfl) rfl (fun K hK => ?_)
        refine step_clone (by rfl) _ _ (by rfl) (by rfl) lA p.locks lc (by rfl) He2.out (P1.out.belowA Bu4.out).l3 P1.out.l4 hl5 ?_
        rintro v' u5 ⟨lA1, lc1, nL, rfl, hcL, RL, hnL, hmL, ku5⟩
        have Bu5 : Hid (Below w1.heap.size w1 u5) := Lib.hid (below_kpS Bu4.out ku5 (fun b hb => by omega))
        have hsau5 := ku5.size
        refine hK.out _ _ (fun _ => sp3_of q0 q1 q2 hpb1 Bu5.out) ?_
        clear hK K hHeld
        have nekbu5 : u0.heap.size ≠ u1.heap.size := by omega
        replace Hkb := Lib.hid ((ku5.block _ (lt_of_block Hkb.out) nekbu5).trans Hkb.out)
        replace HRG := Lib.hid ((ku5.block nG (by omega) (by omega)).trans HRG.out)
        have HRL : Hid (u5.heap[nL]? = u5.heap[nL]?) := Lib.hid rfl
        clear ku5 He2
        have hHeld := sp3_of q0 q1 q2 hpb1 Bu5.out
        try simp only [Act.put]
        refine wpSk_take (i := 8) (v := ?hvf833228) rfl (by kernel_rfl) (fun _ _ _ h => h) (Or.inl ⟨by rfl, ?hyf833228⟩) (by assumption) ?hrf833228
        case hyf833228 => (intro wS hSw; (try dsimp only at hSw); go_simp; (try with_reducible rfl))
        try simp only [Act.put]
        clear hHeld
        obtain ⟨y0, y1, y2, y3, y4, -, -⟩ := box5 Hkb.out
        obtain ⟨fz0, fz1, fz2, fz3, fz4⟩ := box5f Hkb.out
        have hkl := lt_of_block Hkb.out
        refine wpSk_step (i := 10) (by kernel_rfl) rfl (fun K hK => ?_)
        go_simp
        refine hK.out _ _ (fun h => absurd h (by decide)) ?_
        clear hK K
        refine wpSk_done (by kernel_rfl) ?_ _
        refine NoPanic.normal ?_
        go_wp2_with fail
        go_meet
        exact ⟨u0.heap.size, gA1, lA1, gc1, lc1, rfl, Lib.hid (con2_done rfl hcG hcL RG.out RL.out (by first | exact HRG.out | rfl) (by first | exact HRL.out | rfl) Hkb.out Bu5.out (by omega) (by omega) (by omega) (by omega) (by omega) (by omega) (by omega) (by omega))⟩
  case rest =>
    rename World => wx
    obtain ⟨kb, gA1, lA1, gc1, lc1, rfl, HC⟩ := hcut
    obtain ⟨hcon, hkb1, hkb2, hbx, hkbx⟩ := HC.out
    have CN := Lib.hid hcon
    have BX := Lib.hid hbx
    have KBX := Lib.hid hkbx
    have PBX := Lib.hid ((hbx.block w.heap.size hpb1).trans PB.out)
    have RBX := Lib.hid ((hbx.block (w.heap.size + 1) (by omega)).trans RB.out)
    have BW := Lib.hid (below_then B1.out hbx)
    have hzx := hbx.size
    clear HC hcon hbx hkbx q0 q1 q2 PB RB
    obtain ⟨q0, q1, q2⟩ := box3P PBX.out
    go_wp2_with fail
    obtain ⟨eb, heb⟩ : ∃ n, wx.heap.size = n := ⟨_, rfl⟩
    obtain ⟨wy, hwy⟩ : ∃ u, wx.alloc (.cells #[.slice gA p.globals.length gc, .slice lA p.locks.length lc, .slice pA p.procs.length pc, .slice none 0 0] 74) = u := ⟨_, rfl⟩
    have BY : Hid (Below wx.heap.size wx wy) := Lib.hid (by rw [← hwy]; exact Below.alloc (Below.refl _ _) (Nat.le_refl _) _)
    have EBY : Hid (wy.heap[eb]? = some (.cells #[.slice gA p.globals.length gc, .slice lA p.locks.length lc, .slice pA p.procs.length pc, .slice none 0 0] 74 (0, 0))) := Lib.hid (by rw [← heb, ← hwy]; exact heap_alloc_new _ _)
    have hszy : wy.heap.size = wx.heap.size + 1 := by rw [← hwy]; simp
    have KBY := Lib.hid ((BY.out.block kb hkb2).trans KBX.out)
    have PBY := Lib.hid ((BY.out.block w.heap.size (by omega)).trans PBX.out)
    have RBY := Lib.hid ((BY.out.block (w.heap.size + 1) (by omega)).trans RBX.out)
    have BWY := Lib.hid (below_then BW.out BY.out)
    obtain ⟨base, hbs⟩ : ∃ n, wy.heap.size = n := ⟨_, rfl⟩
    have CNY : Hid (CoN2 w1 wy kb eb gA1 lA1 gc1 lc1 p) := Lib.hid (CN.out.keep (fun b _ hb _ => BY.out.block b hb) (by omega))
    have hb1 : wy.heap.size ≤ base := by omega
    have hb2 : base ≤ wy.heap.size := by omega
    have hkb3 : kb < base := by omega
    have heb3 : eb < base := by omega
    have hke : ¬ kb = eb := by omega
    have hwe : w1.heap.size ≤ eb := by omega
    have hwP : w.heap.size ≤ eb := by omega
    have hwb : w1.heap.size ≤ base := by omega
    (try rw [heb])
    (try rw [hwy])
    clear hbs hszy hwy heb hzx hkb2 BX CN KBX PBX RBX BW BY q0 q1 q2
    obtain ⟨q0, q1, q2⟩ := box3P PBY.out
    go_wp2_with fail
    go_loopw [6] (fun i wr => ∃ j : Nat, j ≤ p.procs.length ∧ i = .int .i64 j ∧ Hid (CoT wy wr kb eb base gA1 lA1 gA lA pA gc1 lc1 gc lc pc p (pnames (p.procs.take j)) (entR (envP p) 0 (p.procs.take j)) (insR (envP p) 0 (p.procs.take j)))) (fun i _ => p.procs.length - (intOf i).toNat)
    case atStart => exact ⟨0, Nat.zero_le _, rfl, Lib.hid (coT_zero KBY.out EBY.out hb2)⟩
    case round =>
      rename World => wr
      obtain ⟨j, hj, rfl, HR⟩ := hrel
      obtain ⟨nA, nc, eA, ec, iA, n, ic, kbr, ebr, own, owe, hd, gi, kp⟩ := HR.out
      have KBR := Lib.hid kbr
      have EBR := Lib.hid ebr
      have OWN := Lib.hid own
      have OWE := Lib.hid owe
      have HD := Lib.hid hd
      have GIR := Lib.hid gi
      have KPR := Lib.hid kp
      have hzr := kp.size
      have BWR := Lib.hid (below_kp BWY.out kp (by omega) (fun b hb => ⟨by omega, by omega, by omega⟩))
      have RBR := Lib.hid ((kp.block (w.heap.size + 1) (by omega) ⟨by omega, by omega, by omega⟩).trans RBY.out)
      have PBR := Lib.hid ((kp.block w.heap.size (by omega) ⟨by omega, by omega, by omega⟩).trans PBY.out)
      have HL : Hid ((insR (envP p) 0 (p.procs.take j)).length = n) := Lib.hid (by obtain ⟨_, _, e, _, _⟩ := gi.slice; injection e with _ e; exact e.symm)
      have HNL : Hid ((pnames (p.procs.take j)).length = j) := Lib.hid (by rw [pnames_len, List.length_take]; omega)
      have HEL : Hid ((entR (envP p) 0 (p.procs.take j)).length = j) := Lib.hid (by rw [entR_len, List.length_take]; omega)
      have hn0 : n ≤ 121 * 8 := by
        have h1 := insR_len (envP p) (p.procs.take j) 0 (fun q hq => (HQ.out q (List.mem_of_mem_take hq)).2)
        have h2 : (p.procs.take j).length ≤ 8 := by rw [List.length_take]; omega
        have h3 := HL.out
        omega
      rw [HNL.out, HEL.out] at KBR HD GIR
      rw [HNL.out] at OWN
      rw [HEL.out] at OWE
      clear kbr ebr own owe hd gi kp q0 q1 q2
      obtain ⟨q0, q1, q2⟩ := box3P PBR.out
      have hpbl := lt_of_block PBR.out
      by_cases hlt : j < p.procs.length
      · obtain ⟨b, off, x, hA, d0', d1', hpr⟩ := rd_proc HP.out.p3 hlt
        have d0 := (BWR.out.cell (p := ⟨b, off + j * 2, none⟩) (cell_lt d0')).trans d0'
        have hbl : b < w.heap.size := cell_lt d0'
        obtain ⟨xs, xA, xm, xc⟩ := x
        obtain ⟨e1, e2, e3, e4, e5, row⟩ := hpr
        simp only at hA d0 d0' d1' e1 e2 e3 e4 e5 row
        subst hA e2
        obtain ⟨hkd, hsn⟩ := HQ.out _ (List.getElem_mem hlt)
        have htb := tot_body hlt htot
        have ROW := Lib.hid row
        have KD := Lib.hid hkd
        have HNM : Hid (pnames (p.procs.take (j + 1)) = pnames (p.procs.take j) ++ [xs]) := Lib.hid (by rw [List.take_succ_eq_append_getElem hlt, ← e1, pnames, List.map_append]; rfl)
        generalize hBD : p.procs[j].body = body at *
        have HBD := Lib.hid hBD
        have D1 := Lib.hid d1'
        clear row hkd hBD e1 d0' d1'
        have hjl : (j : Int) < (p.procs.length : Int) := by omega
        have hj0 : (0 : Int) ≤ (j : Int) := by omega
        have hkr := lt_of_block KBR.out
        have t1 : j + 1 ≤ 2000000 := by omega
        have OWN0 := Lib.hid (OWN.out.keep (w' := wr.drew) (S := fun _ => True) (Keep.of_below (Below.refl _ _).drew) (fun _ _ => trivial)).own
        -- names
        go_upto_region 8 with fail
        go_cut [6] from 23 to 61 (fun v6 wx => v6 = .int .i64 (j : Int) ∧ Hid (∃ nA1 nc1, wx.heap[kb]? = some (.cells #[.slice gA1 p.globals.length gc1, .slice lA1 p.locks.length lc1, .slice nA1 (j + 1) nc1, .slice eA j ec, .slice none 0 0] 48 (0, 0)) ∧ OwnX base wx 9 1 (.slice nA1 (j + 1) nc1) (j + 1) ((pnames (p.procs.take j)).map Value.string ++ [.string xs]) ∧ OwnX base wx 3 1 (.slice eA j ec) j ((entR (envP p) 0 (p.procs.take j)).map (Value.int .i64)) ∧ (∀ b, (Value.slice nA1 (j + 1) nc1).ownBlock = some b → (Value.slice eA j ec).ownBlock ≠ some b) ∧ GrwI base (fun b => (Value.slice nA1 (j + 1) nc1).ownBlock = some b ∨ (Value.slice eA j ec).ownBlock = some b) wx (.slice iA n ic) (insR (envP p) 0 (p.procs.take j)) ∧ Keep (fun b => b < base ∧ b ≠ kb) wr wx))
        case first =>
          obtain ⟨k0, k1, k2, k3, k4, -, -⟩ := box5 KBR.out
          have hS0 : wr.drew.cell? ⟨w.heap.size, 2, none⟩ = some (.slice (some ⟨b, off, none⟩) p.procs.length pc) ∧ wr.drew.cell? ⟨b, off + j * 2, none⟩ = some (.string xs) ∧ wr.drew.cell? ⟨kb, 2, none⟩ = some (.slice nA j nc) := ⟨q2, d0, k2⟩
          refine wp_region_noPanic ?_
          refine wp_region_sk (fun w' => w'.cell? ⟨w.heap.size, 2, none⟩ = some (.slice (some ⟨b, off, none⟩) p.procs.length pc) ∧ w'.cell? ⟨b, off + j * 2, none⟩ = some (.string xs) ∧ w'.cell? ⟨kb, 2, none⟩ = some (.slice nA j nc)) 11 (by kernel_rfl) hS0 (fun hHeld => ?_)
          refine wpSk_take (i := 0) (v := ?hvn0) rfl (by kernel_rfl) (fun _ _ _ h => h) (Or.inl ⟨by rfl, ?hyn0⟩) (by assumption) ?hrn0
          case hyn0 => (intro wS hSw; (try dsimp only at hSw); go_simp; (try with_reducible rfl))
          try simp only [Act.put, layS]
          refine wpSk_take (i := 1) (v := ?hvn1) rfl (by kernel_rfl) (fun _ _ _ h => h) (Or.inl ⟨by rfl, ?hyn1⟩) (by assumption) ?hrn1
          case hyn1 => (intro wS hSw; (try dsimp only at hSw); go_simp; (try with_reducible rfl))
          try simp only [Act.put]
          refine wpSk_take (i := 2) (v := ?hvn2) rfl (by kernel_rfl) (fun _ _ _ h => h) (Or.inl ⟨by rfl, ?hyn2⟩) (by assumption) ?hrn2
          case hyn2 => (intro wS hSw; (try dsimp only at hSw); go_simp; (try with_reducible rfl))
          try simp only [Act.put]
          refine wpSk_take (i := 3) (v := ?hvn3) rfl (by kernel_rfl) (fun _ _ _ h => h) (Or.inl ⟨by rfl, ?hyn3⟩) (by assumption) ?hrn3
          case hyn3 => (intro wS hSw; (try dsimp only at hSw); go_simp; (try with_reducible rfl))
          try simp only [Act.put]
          refine wpSk_take (i := 4) (v := ?hvn4) rfl (by kernel_rfl) (fun _ _ _ h => h) (Or.inl ⟨by rfl, ?hyn4⟩) (by assumption) ?hrn4
          case hyn4 => (intro wS hSw; (try dsimp only at hSw); go_simp; (try with_reducible rfl))
          try simp only [Act.put]
          refine wpSk_take (i := 5) (v := ?hvn5) rfl (by kernel_rfl) (fun _ _ _ h => h) (Or.inl ⟨by rfl, ?hyn5⟩) (by assumption) ?hrn5
          case hyn5 => (intro wS hSw; (try dsimp only at hSw); go_simp; (try with_reducible rfl))
          try simp only [Act.put]
          refine wpSk_take (i := 6) (v := ?hvn6) rfl (by kernel_rfl) (fun _ _ _ h => h) (Or.inl ⟨by rfl, ?hyn6⟩) (by assumption) ?hrn6
          case hyn6 => (intro wS hSw; (try dsimp only at hSw); go_simp; (try with_reducible rfl))
          try simp only [Act.put]
          refine wpSk_take (i := 7) (v := ?hvn7) rfl (by kernel_rfl) (fun _ _ _ h => h) (Or.inl ⟨by rfl, ?hyn7⟩) (by assumption) ?hrn7
          case hyn7 => (intro wS hSw; (try dsimp only at hSw); go_simp; (try with_reducible rfl))
          try simp only [Act.put]
          refine wpSk_step (i := 8) (by kernel_rfl) rfl (fun K hK => ?_)
          go_simp
          refine hK.out _ _ (fun _ => three_alloc hHeld _) ?_
          clear hK K hHeld
          try simp only [Act.put, layS, layZ, layC]
          refine wpSk_step (i := 9) (by kernel_rfl) rfl (fun K hK => ?_)
          refine step_appG _ strT (by rfl) _ _ (by rfl) (by rfl) (OWN0.out.alloc _) _ 1 1 [.string xs] (by rfl) (by first | exact Rd.new _ 1 1 _ _ rfl | exact (Rd.new _ 1 1 _ _ rfl).drew) (by simp [Value.oneCell']) t1 (by decide) ?_
          intro v' w7 own' gr'
          have GZ' : Grew (.slice nA j nc) v' wr.drew w7 := (Grew.of_below (Below.alloc (Below.refl _ _) (Nat.le_refl _) _)).trans gr'
          have hog : ∀ b, b < base → (Value.slice nA j nc).ownBlock ≠ some b := (fun b hb e => by have := (OWN.out.lt b e).1; omega)
          have KZ := Lib.hid ((GZ'.keep.block kb hkr (hog kb hkb3)).trans KBR.out)
          have PZ := Lib.hid ((GZ'.keep.block w.heap.size hpbl (hog _ (by omega))).trans PBR.out)
          have d0z := (GZ'.keep.cell (p := ⟨b, off + j * 2, none⟩) (cell_lt d0) (hog b (by omega))).trans d0
          obtain ⟨-, -, q2'⟩ := box3P PZ.out
          have hNew : w7.cell? ⟨w.heap.size, 2, none⟩ = some (.slice (some ⟨b, off, none⟩) p.procs.length pc) ∧ w7.cell? ⟨b, off + j * 2, none⟩ = some (.string xs) ∧ w7.cell? ⟨kb, 2, none⟩ = some (.slice nA j nc) := ⟨q2', d0z, (box5 KZ.out).2.2.1⟩
          obtain ⟨nA1, nc1, rfl, _⟩ := own'.slice
          have OW7 := Lib.hid own'
          have GZ := Lib.hid GZ'
          clear own' gr' GZ'
          refine hK.out _ _ (fun _ => hNew) ?_
          clear hK K
          have hHeld := hNew
          clear hNew
          try simp only [Act.put, layS]
          refine wpSk_take (i := 10) (v := ?hvn10) rfl (by kernel_rfl) (fun _ _ _ h => h) (Or.inl ⟨by rfl, ?hyn10⟩) (by assumption) ?hrn10
          case hyn10 => (intro wS hSw; (try dsimp only at hSw); go_simp; (try with_reducible rfl))
          try simp only [Act.put]
          clear hHeld hS0
          obtain ⟨y0, y1, y2, y3, y4, -, -⟩ := box5 KZ.out
          have fz2 := (box5f KZ.out).2.2.1
          have hy := lt_of_block KZ.out
          refine wpSk_step (i := 11) (by kernel_rfl) rfl (fun K hK => ?_)
          go_simp
          refine hK.out _ _ (fun h => absurd h (by decide)) ?_
          clear hK K
          refine wpSk_done (by kernel_rfl) ?_ _
          refine NoPanic.normal ?_
          go_wp2_with fail
          go_meet
          obtain ⟨r1, r2, r3, r4, r5⟩ := two_app (o := 2) (kb := kb) (OWN.out.keep (S := fun _ => True) (Keep.of_below (Below.refl _ _).drew) (fun _ _ => trivial)) (OWE.out.keep (S := fun _ => True) (Keep.of_below (Below.refl _ _).drew) (fun _ _ => trivial)) HD.out (GIR.out.below IcP.keepP (Below.refl _ _).drew) (fun b h => .inl h) (fun b h => .inr h) hkb3 OW7.out GZ.out (.slice nA1 (j + 1) nc1)
          exact ⟨rfl, Lib.hid ⟨nA1, nc1, s5_2 KZ.out _, r1, r2, r3, r4, (Keep.of_below (S := fun b => b < base ∧ b ≠ kb) (Below.refl _ _).drew).trans r5 (fun _ _ h => h)⟩⟩
        case rest =>
          rename World => wn
          obtain ⟨rfl, HC2⟩ := hcut
          obtain ⟨nA1, nc1, kb2, ow2, oe2, hd2, gi2, kp2⟩ := HC2.out
          have KB2 := Lib.hid kb2
          have OWN2 := Lib.hid ow2
          have OWE2 := Lib.hid oe2
          have HD2 := Lib.hid hd2
          have GI2 := Lib.hid gi2
          have KP2 := Lib.hid kp2
          have hz2 := kp2.size
          have EB2 := Lib.hid ((kp2.block eb (lt_of_block EBR.out) ⟨heb3, fun h => hke h.symm⟩).trans EBR.out)
          have PB2 := Lib.hid ((kp2.block w.heap.size hpbl ⟨by omega, by omega⟩).trans PBR.out)
          clear HC2 kb2 ow2 oe2 hd2 gi2 kp2 q0 q1 q2 d0
          have OWE20 := Lib.hid (OWE2.out.keep (w' := wn.drew) (S := fun _ => True) (Keep.of_below (Below.refl _ _).drew) (fun _ _ => trivial)).own
          obtain ⟨e0, e1, e2, e3, -⟩ := box4 EB2.out
          have hk2 := lt_of_block KB2.out
          have he2 := lt_of_block EB2.out
          -- entries
          go_upto_region 9 with fail
          go_cut [6] from 23 to 61 (fun v6 wx => v6 = .int .i64 (j : Int) ∧ Hid (∃ eA1 ec1, wx.heap[kb]? = some (.cells #[.slice gA1 p.globals.length gc1, .slice lA1 p.locks.length lc1, .slice nA1 (j + 1) nc1, .slice eA1 (j + 1) ec1, .slice none 0 0] 48 (0, 0)) ∧ OwnX base wx 9 1 (.slice nA1 (j + 1) nc1) (j + 1) ((pnames (p.procs.take j)).map Value.string ++ [.string xs]) ∧ OwnX base wx 3 1 (.slice eA1 (j + 1) ec1) (j + 1) ((entR (envP p) 0 (p.procs.take j)).map (Value.int .i64) ++ [.int .i64 (n : Int)]) ∧ (∀ b, (Value.slice eA1 (j + 1) ec1).ownBlock = some b → (Value.slice nA1 (j + 1) nc1).ownBlock ≠ some b) ∧ GrwI base (fun b => (Value.slice eA1 (j + 1) ec1).ownBlock = some b ∨ (Value.slice nA1 (j + 1) nc1).ownBlock = some b) wx (.slice iA n ic) (insR (envP p) 0 (p.procs.take j)) ∧ Keep (fun b => b < base ∧ b ≠ kb) wn wx))
          case first =>
            obtain ⟨k0, k1, k2, k3, k4, -, -⟩ := box5 KB2.out
            have hS0 : wn.drew.cell? ⟨eb, 3, none⟩ = some (.slice iA n ic) ∧ wn.drew.cell? ⟨kb, 3, none⟩ = some (.slice eA j ec) ∧ wn.drew.cell? ⟨kb, 3, none⟩ = some (.slice eA j ec) := ⟨e3, k3, k3⟩
            refine wp_region_noPanic ?_
            refine wp_region_sk (fun w' => w'.cell? ⟨eb, 3, none⟩ = some (.slice iA n ic) ∧ w'.cell? ⟨kb, 3, none⟩ = some (.slice eA j ec) ∧ w'.cell? ⟨kb, 3, none⟩ = some (.slice eA j ec)) 10 (by kernel_rfl) hS0 (fun hHeld => ?_)
            refine wpSk_take (i := 0) (v := ?hve0) rfl (by kernel_rfl) (fun _ _ _ h => h) (Or.inl ⟨by rfl, ?hye0⟩) (by assumption) ?hre0
            case hye0 => (intro wS hSw; (try dsimp only at hSw); go_simp; (try with_reducible rfl))
            try simp only [Act.put, layS]
            refine wpSk_take (i := 1) (v := ?hve1) rfl (by kernel_rfl) (fun _ _ _ h => h) (Or.inl ⟨by rfl, ?hye1⟩) (by assumption) ?hre1
            case hye1 => (intro wS hSw; (try dsimp only at hSw); go_simp; (try with_reducible rfl))
            try simp only [Act.put]
            refine wpSk_take (i := 2) (v := ?hve2) rfl (by kernel_rfl) (fun _ _ _ h => h) (Or.inl ⟨by rfl, ?hye2⟩) (by assumption) ?hre2
            case hye2 => (intro wS hSw; (try dsimp only at hSw); go_simp; (try with_reducible rfl))
            try simp only [Act.put]
            refine wpSk_take (i := 3) (v := ?hve3) rfl (by kernel_rfl) (fun _ _ _ h => h) (Or.inl ⟨by rfl, ?hye3⟩) (by assumption) ?hre3
            case hye3 => (intro wS hSw; (try dsimp only at hSw); go_simp; (try with_reducible rfl))
            try simp only [Act.put]
            refine wpSk_take (i := 4) (v := ?hve4) rfl (by kernel_rfl) (fun _ _ _ h => h) (Or.inl ⟨by rfl, ?hye4⟩) (by assumption) ?hre4
            case hye4 => (intro wS hSw; (try dsimp only at hSw); go_simp; (try with_reducible rfl))
            try simp only [Act.put]
            refine wpSk_take (i := 5) (v := ?hve5) rfl (by kernel_rfl) (fun _ _ _ h => h) (Or.inl ⟨by rfl, ?hye5⟩) (by assumption) ?hre5
            case hye5 => (intro wS hSw; (try dsimp only at hSw); go_simp; (try with_reducible rfl))
            try simp only [Act.put]
            refine wpSk_take (i := 6) (v := ?hve6) rfl (by kernel_rfl) (fun _ _ _ h => h) (Or.inl ⟨by rfl, ?hye6⟩) (by assumption) ?hre6
            case hye6 => (intro wS hSw; (try dsimp only at hSw); go_simp; (try with_reducible rfl))
            try simp only [Act.put]
            refine wpSk_step (i := 7) (by kernel_rfl) rfl (fun K hK => ?_)
            go_simp
            refine hK.out _ _ (fun _ => three_alloc hHeld _) ?_
            clear hK K hHeld
            try simp only [Act.put, layS, layZ, layC]
            refine wpSk_step (i := 8) (by kernel_rfl) rfl (fun K hK => ?_)
            refine step_appG _ intT (by rfl) _ _ (by rfl) (by rfl) (OWE20.out.alloc _) _ 1 1 [.int .i64 (n : Int)] (by rfl) (by first | exact Rd.new _ 1 1 _ _ rfl | exact (Rd.new _ 1 1 _ _ rfl).drew) (by simp [Value.oneCell']) t1 (by decide) ?_
            intro v' w7 own' gr'
            have GZ' : Grew (.slice eA j ec) v' wn.drew w7 := (Grew.of_below (Below.alloc (Below.refl _ _) (Nat.le_refl _) _)).trans gr'
            have hog : ∀ b, b < base → (Value.slice eA j ec).ownBlock ≠ some b := (fun b hb e => by have := (OWE2.out.lt b e).1; omega)
            have KZ := Lib.hid ((GZ'.keep.block kb hk2 (hog kb hkb3)).trans KB2.out)
            have EZ := Lib.hid ((GZ'.keep.block eb he2 (hog eb heb3)).trans EB2.out)
            have hNew : w7.cell? ⟨eb, 3, none⟩ = some (.slice iA n ic) ∧ w7.cell? ⟨kb, 3, none⟩ = some (.slice eA j ec) ∧ w7.cell? ⟨kb, 3, none⟩ = some (.slice eA j ec) := ⟨(box4 EZ.out).2.2.2.1, (box5 KZ.out).2.2.2.1, (box5 KZ.out).2.2.2.1⟩
            obtain ⟨eA1, ec1, rfl, _⟩ := own'.slice
            have OW7 := Lib.hid own'
            have GZ := Lib.hid GZ'
            clear own' gr' GZ'
            refine hK.out _ _ (fun _ => hNew) ?_
            clear hK K
            have hHeld := hNew
            clear hNew
            try simp only [Act.put, layS]
            refine wpSk_take (i := 9) (v := ?hve9) rfl (by kernel_rfl) (fun _ _ _ h => h) (Or.inl ⟨by rfl, ?hye9⟩) (by assumption) ?hre9
            case hye9 => (intro wS hSw; (try dsimp only at hSw); go_simp; (try with_reducible rfl))
            try simp only [Act.put]
            clear hHeld hS0
            obtain ⟨y0, y1, y2, y3, y4, -, -⟩ := box5 KZ.out
            have fz3 := (box5f KZ.out).2.2.2.1
            have hy := lt_of_block KZ.out
            refine wpSk_step (i := 10) (by kernel_rfl) rfl (fun K hK => ?_)
            go_simp
            refine hK.out _ _ (fun h => absurd h (by decide)) ?_
            clear hK K
            refine wpSk_done (by kernel_rfl) ?_ _
            refine NoPanic.normal ?_
            go_wp2_with fail
            go_meet
            obtain ⟨r1, r2, r3, r4, r5⟩ := two_app (o := 3) (kb := kb) (OWE2.out.keep (S := fun _ => True) (Keep.of_below (Below.refl _ _).drew) (fun _ _ => trivial)) (OWN2.out.keep (S := fun _ => True) (Keep.of_below (Below.refl _ _).drew) (fun _ _ => trivial)) (fun b h e => HD2.out b e h) (GI2.out.below IcP.keepP (Below.refl _ _).drew) (fun b h => .inr h) (fun b h => .inl h) hkb3 OW7.out GZ.out (.slice eA1 (j + 1) ec1)
            exact ⟨rfl, Lib.hid ⟨eA1, ec1, s5_3 KZ.out _, r2, r1, r3, r4, (Keep.of_below (S := fun b => b < base ∧ b ≠ kb) (Below.refl _ _).drew).trans r5 (fun _ _ h => h)⟩⟩
          case rest =>
            rename World => u1
            obtain ⟨rfl, HC3⟩ := hcut
            obtain ⟨eA1, ec1, kb3, on3, oe3, hd3, gi3, kp3⟩ := HC3.out
            have KB3 := Lib.hid kb3
            have OWN3 := Lib.hid on3
            have OWE3 := Lib.hid oe3
            have HD3 := Lib.hid hd3
            have GI3 := Lib.hid gi3
            have KP3 : Hid (Keep (fun b => b < base ∧ b ≠ kb) wr u1) := Lib.hid (KP2.out.trans kp3 (fun _ _ h => h))
            have hz3 := kp3.size
            have EB3 := Lib.hid ((kp3.block eb he2 ⟨heb3, fun h => hke h.symm⟩).trans EB2.out)
            have PB3 := Lib.hid ((kp3.block w.heap.size (by omega) ⟨by omega, by omega⟩).trans PB2.out)
            have KPX : Hid (Keep (fun b => b < base ∧ b ≠ kb ∧ b ≠ eb) wy u1) := Lib.hid (KPR.out.trans KP3.out (fun _ _ h => ⟨h.1, h.2.1⟩))
            have WP1 := Lib.hid (below_kp BWY.out KPX.out (by omega) (fun b hb => ⟨by omega, by omega, by omega⟩))
            clear HC3 kb3 on3 oe3 hd3 gi3 kp3 e0 e1 e2 e3
            obtain ⟨q0, q1, q2⟩ := box3P PB3.out
            have d1 := (WP1.out.cell (p := ⟨b, off + j * 2 + 1, none⟩) (cell_lt D1.out)).trans D1.out
            have RW : Hid (StRow (Fz base (fun b => (Value.slice eA1 (j + 1) ec1).ownBlock = some b ∨ (Value.slice nA1 (j + 1) nc1).ownBlock = some b) eb) u1 xA body) := Lib.hid (ROW.out.keep (fun q hq _ => WP1.out.cell hq) (fun b hb _ => ⟨by omega, .inl (by omega)⟩))
            have ZL : Hid (∀ b, ((Value.slice eA1 (j + 1) ec1).ownBlock = some b ∨ (Value.slice nA1 (j + 1) nc1).ownBlock = some b) → b < u1.heap.size) := Lib.hid (fun b h => h.elim (fun h => (OWE3.out.lt b h).2) (fun h => (OWN3.out.lt b h).2))
            have hpl : (pnames p.procs).length ≤ 1000 := by rw [pnames_len]; omega
            have hk3 := lt_of_block KB3.out
            go_wp2_with fail
            have hcl2 := spec_l08Stmts body xA xc u1 w eb p gA lA (some ⟨b, off, none⟩) gc lc pc iA n ic (insR (envP p) 0 (p.procs.take j)) base (fun b => (Value.slice eA1 (j + 1) ec1).ownBlock = some b ∨ (Value.slice nA1 (j + 1) nc1).ownBlock = some b) RW.out e4 e5 KD.out htb (by have := HL.out; omega) HP.out WP1.out hwP ⟨by omega, by omega, hpl⟩ heb3 (by omega) ZL.out EB3.out GI3.out
            refine hcl2.mono ?_
            clear hcl2
            rintro e u2 ⟨rfl, kp4, A2, n2, c2, cu2, hcu2, heb2, hgr2⟩
            have HC2 := Lib.hid hcu2
            have EB4 := Lib.hid heb2
            have GR4 := Lib.hid hgr2
            have KP4 := Lib.hid kp4
            have HL2 : Hid (cu2.length = n2) := Lib.hid (by obtain ⟨_, _, e, _, _⟩ := hgr2.slice; injection e with _ e; exact e.symm)
            have hz4 := kp4.size
            have hn2 : n2 ≤ 2000 := by
              have q1 := emSs_len (envP p) n body
              have q2 := HL2.out
              have q3 := HL.out
              rw [hcu2, List.length_append, q3] at q2
              omega
            clear hcu2 heb2 hgr2 kp4 q0 q1 q2 d1
            go_wp2_with fail
            have hcl3 := spec_l08Put u2 u2 eb gA lA (some ⟨b, off, none⟩) A2 none p.globals.length gc p.locks.length lc p.procs.length pc n2 c2 0 0 9 0 0 0 0 ⟨#[]⟩ cu2 ⟨9, 0, zeroTm, 0⟩ base (fun b => (Value.slice eA1 (j + 1) ec1).ownBlock = some b ∨ (Value.slice nA1 (j + 1) nc1).ownBlock = some b) NoB (Below.refl _ _) EB4.out GR4.out heb3 (by omega) (fun b h => Nat.lt_of_lt_of_le (ZL.out b h) hz4) (icP_zero _ 9 0 0 (i64_of (by omega) (by omega)) (i64_of (by omega) (by omega)) (i64_of (by omega) (by omega))) (fun b hb => hb.elim) (by omega)
            refine hcl3.mono ?_
            clear hcl3
            rintro e u3 ⟨rfl, A3, n3, c3, heb5, hn3, hgr5, kp5⟩
            have EB5 := Lib.hid heb5
            have GR5 := Lib.hid hgr5
            have KP5 : Hid (Keep (Fz base (fun b => (Value.slice eA1 (j + 1) ec1).ownBlock = some b ∨ (Value.slice nA1 (j + 1) nc1).ownBlock = some b) eb) u1 u3) := Lib.hid (KP4.out.trans kp5 (fun _ _ h => h))
            clear heb5 hn3 hgr5 kp5
            have RN : Hid (CoT wy u3 kb eb base gA1 lA1 gA lA (some ⟨b, off, none⟩) gc1 lc1 gc lc pc p (pnames (p.procs.take (j + 1))) (entR (envP p) 0 (p.procs.take (j + 1))) (insR (envP p) 0 (p.procs.take (j + 1)))) := Lib.hid (by
              have hnl : (pnames (p.procs.take (j + 1))).length = j + 1 := by rw [pnames_len, List.length_take]; omega
              have hel : (entR (envP p) 0 (p.procs.take (j + 1))).length = j + 1 := by rw [entR_len, List.length_take]; omega
              unfold CoT
              rw [hnl, hel]
              refine ⟨nA1, nc1, eA1, ec1, A3, n3, c3, (KP5.out.block kb hk3 ⟨hke, .inl hkb3⟩).trans KB3.out, EB5.out, ?_, ?_, fun b h e => HD3.out b e h, ?_, ?_⟩
              · have h := OWN3.out.keep KP5.out (fun b hb => ⟨fun e => by have := (OWN3.out.lt b hb).1; omega, .inr (.inr hb)⟩)
                rw [HNM.out, List.map_append]
                exact h
              · have h := OWE3.out.keep KP5.out (fun b hb => ⟨fun e => by have := (OWE3.out.lt b hb).1; omega, .inr (.inl hb)⟩)
                rw [List.take_succ_eq_append_getElem hlt, entR_snoc, Nat.zero_add, HL.out, List.map_append]
                exact h
              · have h := GR5.out
                rw [HC2.out] at h
                rw [List.take_succ_eq_append_getElem hlt, insR_snoc, Nat.zero_add, HL.out, HBD.out]
                exact h.zsub (fun b _ _ h => h.symm)
              · exact KPX.out.trans KP5.out (fun b _ h => ⟨h.2.2, .inl h.1⟩))
            go_wp2_with fail
            go_roundw
            case rel => exact ⟨j + 1, by omega, by go_num, RN⟩
            case measure => simp [intOf]; omega
      · have e : j = p.procs.length := by omega
        subst e
        have HR2 := HR.out
        rw [List.take_length] at HR2
        obtain ⟨nA2, nc2, eA2, ec2, iA2, ic2, hkc, hec, hcd⟩ := CoT.code (CNY.out.keep (wy := wr) (base' := base) (fun b h1 h2 h3 => KPR.out.block b (by omega) ⟨by omega, h3, by omega⟩) (by omega)) HR2 hkb3 HF.out (pnames_size HP.out) hwb
        have CD := Lib.hid hcd
        have KC := Lib.hid hkc
        have EC := Lib.hid hec
        have hkl := lt_of_block KC.out
        have hrl := lt_of_block RBR.out
        obtain ⟨k0, k1, k2, k3, k4, -, -⟩ := box5 KC.out
        have g4 := (box5f KC.out).2.2.2.2
        obtain ⟨-, -, -, e3, -⟩ := box4 EC.out
        obtain ⟨y0, y1, y2, y3, y4, -, -⟩ := box5 RBR.out
        obtain ⟨f0, f1, f2, f3, f4⟩ := box5f RBR.out
        have hrk : ¬ w.heap.size + 1 = kb := by omega
        have hkr' : ¬ kb = w.heap.size + 1 := by omega
        clear hkc hec hcd HR HR2
        go_wp2_with fail
        have RZ := Lib.hid ((Below.heap_setCell wr ⟨kb, 4, none⟩ (.slice iA2 (insR (envP p) 0 p.procs).length ic2) (w.heap.size + 1) hrk).trans RBR.out)
        have RF := Lib.hid (s5_all RZ.out (.slice gA1 p.globals.length gc1) (.slice lA1 p.locks.length lc1) (.slice nA2 (pnames p.procs).length nc2) (.slice eA2 (entR (envP p) 0 p.procs).length ec2) (.slice iA2 (insR (envP p) 0 p.procs).length ic2))
        have FB := Lib.hid (five_below (BWR.out.setCell (p := ⟨kb, 4, none⟩) (by show w.heap.size ≤ kb; omega) (.slice iA2 (insR (envP p) 0 p.procs).length ic2)) (g := w.heap.size + 1) (by omega) (.slice gA1 p.globals.length gc1) (.slice lA1 p.locks.length lc1) (.slice nA2 (pnames p.procs).length nc2) (.slice eA2 (entR (envP p) 0 p.procs).length ec2) (.slice iA2 (insR (envP p) 0 p.procs).length ic2))
        have CF := Lib.hid ((CD.out.keep (w' := ((((((wr.setCell ⟨kb, 4, none⟩ (.slice iA2 (insR (envP p) 0 p.procs).length ic2)).setCell ⟨w.heap.size + 1, 0, none⟩ (.slice gA1 p.globals.length gc1)).setCell ⟨w.heap.size + 1, 1, none⟩ (.slice lA1 p.locks.length lc1)).setCell ⟨w.heap.size + 1, 2, none⟩ (.slice nA2 (pnames p.procs).length nc2)).setCell ⟨w.heap.size + 1, 3, none⟩ (.slice eA2 (entR (envP p) 0 p.procs).length ec2)).setCell ⟨w.heap.size + 1, 4, none⟩ (.slice iA2 (insR (envP p) 0 p.procs).length ic2))) fun b hb => (five_other (w := (wr.setCell ⟨kb, 4, none⟩ (.slice iA2 (insR (envP p) 0 p.procs).length ic2))) (g := w.heap.size + 1) (.slice gA1 p.globals.length gc1) (.slice lA1 p.locks.length lc1) (.slice nA2 (pnames p.procs).length nc2) (.slice eA2 (entR (envP p) 0 p.procs).length ec2) (.slice iA2 (insR (envP p) 0 p.procs).length ic2) b (by omega)).trans (Below.heap_setCell wr ⟨kb, 4, none⟩ _ b hb.2.2)).sub (F' := Made w ((((((wr.setCell ⟨kb, 4, none⟩ (.slice iA2 (insR (envP p) 0 p.procs).length ic2)).setCell ⟨w.heap.size + 1, 0, none⟩ (.slice gA1 p.globals.length gc1)).setCell ⟨w.heap.size + 1, 1, none⟩ (.slice lA1 p.locks.length lc1)).setCell ⟨w.heap.size + 1, 2, none⟩ (.slice nA2 (pnames p.procs).length nc2)).setCell ⟨w.heap.size + 1, 3, none⟩ (.slice eA2 (entR (envP p) 0 p.procs).length ec2)).setCell ⟨w.heap.size + 1, 4, none⟩ (.slice iA2 (insR (envP p) 0 p.procs).length ic2))) fun b hb => ⟨by omega, by simp; exact hb.2.1⟩)
        obtain ⟨z0, z1, z2, z3, z4, -, -⟩ := box5 RF.out
        exact bodyPost_ret (v := .tuple #[.agg #[.slice gA1 p.globals.length gc1, .slice lA1 p.locks.length lc1, .slice nA2 (pnames p.procs).length nc2, .slice eA2 (entR (envP p) 0 p.procs).length ec2, .slice iA2 (insR (envP p) 0 p.procs).length ic2], .bool true]) (by simp [results, Try.results16, go_sem, z0, z1, z2, z3, z4]) rfl ⟨⟨gA1, gc1, lA1, lc1, nA2, nc2, eA2, ec2, iA2, ic2⟩, rfl, CF.out, FB.out⟩
theorem spec_CodeOf (p : Pg) (x : V3) (w : World) (hp : PgIs w x p) (htot : totPg p ≤ 1048576) : Calls Try.prog 16 #[x.val p] w (RetCO w (codeR p)) := by
  by_cases hf : faultR p = 0
  · exact spec_CodeOf_good p x w hp htot hf
  · exact spec_CodeOf_bad p x w hp htot hf
end Go.Proofs.Ytadcebdhgocmhaa
