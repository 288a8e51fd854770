/- Lemmas for the row. -/
import Derived.Test.YtadcebdhgocmhaaKo35
import Derived.Test.YtadcebdhgocmhaaKo49
import Derived.Test.YtadcebdhgocmhaaKo50
import Derived.Deep.RegionHeld3
namespace Go.Proofs.Ytadcebdhgocmhaa
open Go.RowKit
set_option linter.unusedVariables false
theorem four_sets {w : World} {b o : Nat} {y0 y1 y2 y3 x0 x1 x2 x3 : Value} (d0 : w.cell? ⟨b, o, none⟩ = some y0) (d1 : w.cell? ⟨b, o + 1, none⟩ = some y1) (d2 : w.cell? ⟨b, o + 2, none⟩ = some y2) (d3 : w.cell? ⟨b, o + 3, none⟩ = some y3) {W : World}
    (hW : (((w.setCell ⟨b, o, none⟩ x0).setCell ⟨b, o + 1, none⟩ x1).setCell ⟨b, o + 2, none⟩ x2).setCell ⟨b, o + 3, none⟩ x3 = W) :
    (W.cell? ⟨b, o, none⟩ = some x0 ∧ W.cell? ⟨b, o + 1, none⟩ = some x1 ∧ W.cell? ⟨b, o + 2, none⟩ = some x2 ∧ W.cell? ⟨b, o + 3, none⟩ = some x3) ∧ (∀ p, p < o ∨ o + 4 ≤ p → W.cell? ⟨b, p, none⟩ = w.cell? ⟨b, p, none⟩) ∧ Keep (fun y => y ≠ b) w W ∧ W.heap.size = w.heap.size ∧ ((∃ cur e, w.heap[b]? = some (.cells cur e (0, 0))) → ∃ cur e, W.heap[b]? = some (.cells cur e (0, 0))) := by
  subst hW
  refine ⟨⟨?_, ?_, ?_, ?_⟩, fun p hp => ?_, ?_, by simp, fun h => plain_set (plain_set (plain_set (plain_set h _ _ _) _ _ _) _ _ _) _ _ _⟩
  · rw [World.cell?_setCell_other _ _ _ _ (by simp), World.cell?_setCell_other _ _ _ _ (by simp), World.cell?_setCell_other _ _ _ _ (by simp)]; exact World.cell?_setCell_same _ _ _ d0
  · rw [World.cell?_setCell_other _ _ _ _ (by simp), World.cell?_setCell_other _ _ _ _ (by simp)]; exact World.cell?_setCell_same _ _ _ (by rw [World.cell?_setCell_other _ _ _ _ (by simp)]; exact d1)
  · rw [World.cell?_setCell_other _ _ _ _ (by simp)]; exact World.cell?_setCell_same _ _ _ (by rw [World.cell?_setCell_other _ _ _ _ (by simp), World.cell?_setCell_other _ _ _ _ (by simp)]; exact d2)
  · exact World.cell?_setCell_same _ _ _ (by rw [World.cell?_setCell_other _ _ _ _ (by simp), World.cell?_setCell_other _ _ _ _ (by simp), World.cell?_setCell_other _ _ _ _ (by simp)]; exact d3)
  · rw [World.cell?_setCell_other _ _ _ _ (fun e => by injection e with _ e; omega), World.cell?_setCell_other _ _ _ _ (fun e => by injection e with _ e; omega), World.cell?_setCell_other _ _ _ _ (fun e => by injection e with _ e; omega), World.cell?_setCell_other _ _ _ _ (fun e => by injection e with _ e; omega)]
  · exact ((((Keep.refl _ _).setCell (p := ⟨b, o, none⟩) (fun h => h rfl) _).setCell (p := ⟨b, o + 1, none⟩) (fun h => h rfl) _).setCell (p := ⟨b, o + 2, none⟩) (fun h => h rfl) _).setCell (p := ⟨b, o + 3, none⟩) (fun h => h rfl) _
set_option maxHeartbeats 800000 in
theorem laws_markIntSH (l : List Int) (A : Option Addr) (c k : Nat) (w : World) (F : Nat → Prop) (row : IntRowO w F A l) (hF : ∀ b, F b → b < w.heap.size) (hl : l.length ≤ c) (hc : c ≤ maxLen) (h0 : 0 < k) (h1 : k + l.length ≤ 100000000) :
    Calls Try.prog 57 #[.slice A l.length c, .int .i64 (k : Int)] w fun e w' => e = .returned (.int .i64 ((k + l.length : Nat) : Int)) ∧ IntRowO w' F A (mkN k l.length) ∧ Keep (fun b => ¬ F b) w w' := by
  unfold maxLen at hc
  have RW := Lib.hid row
  have HF := Lib.hid hF
  clear row hF
  go_enter Try.func57, Try.ntmps57
  go_wp2_with fail
  go_loopw [1, 5] (fun n i wr => ∃ m : Nat, m ≤ l.length ∧ i = .int .i64 m ∧ n = .int .i64 ((k + m : Nat) : Int) ∧ Hid (∃ l' : List Int, l'.length = l.length ∧ (∀ i, i < m → l'[i]? = (mkN k l.length)[i]?) ∧ IntRowO wr F A l' ∧ Keep (fun b => ¬ F b) w wr)) (fun _ i _ => l.length - (intOf i).toNat)
  case atStart => exact ⟨0, Nat.zero_le _, rfl, rfl, Lib.hid ⟨l, rfl, fun i h => absurd h (by omega), RW.out, Keep.refl _ _⟩⟩
  case round =>
    obtain ⟨m, hm, rfl, rfl, HR⟩ := hrel
    obtain ⟨l', hll, hdone, hrow, hkeep⟩ := HR.out
    have HD := Lib.hid hdone
    clear hdone
    by_cases hlt : m < l.length
    · obtain ⟨b, off, G, cells, rfl, hcl, hcell, hP, hFb, hpl, hGF, hback⟩ := RowOf.focus (P := IntP) IntP.keepP hrow (i := m) (by omega)
      have d0 : wr.cell? ⟨b, off + m, none⟩ = some (.int .i64 (l'[m]'(by omega))) := by
        have := hcell 0 (.int .i64 (l'[m]'(by omega))) (by rw [hP.1]; rfl)
        simpa using this
      have hlb := cell_lt d0
      have f0 := plain_free hpl (off + m)
      have h0m : (0 : Int) ≤ (m : Int) := by omega
      have EC : Hid ((k : Int) + (m : Int) = ((k + m : Nat) : Int)) := Lib.hid (by omega)
      have RN : Hid (∃ l' : List Int, l'.length = l.length ∧ (∀ i, i < m + 1 → l'[i]? = (mkN k l.length)[i]?) ∧ IntRowO (wr.setCell ⟨b, off + m, none⟩ (.int .i64 ((k + m : Nat) : Int))) F (some ⟨b, off, none⟩) l' ∧ Keep (fun b => ¬ F b) w (wr.setCell ⟨b, off + m, none⟩ (.int .i64 ((k + m : Nat) : Int)))) := by
        refine Lib.hid ⟨l'.set m ((k + m : Nat) : Int), by rw [List.length_set]; exact hll, fun i hi => ?_, hback _ [.int .i64 ((k + m : Nat) : Int)] _ rfl (plain_set hpl b (off + m) _) (fun r u hu => ?_) (fun o ho => ?_) (fun y hy hne _ => Below.heap_setCell _ _ _ _ hne) ⟨rfl, i64_nat (by omega)⟩, ?_⟩
        · by_cases him : i = m
          · subst him
            rw [List.getElem?_set_self (by omega), mkN_get _ _ _ hlt]
          · rw [List.getElem?_set_ne (by omega)]; exact HD.out i (by omega)
        · match r, hu with
          | 0, hu => injection hu with hu; subst hu; simpa using World.cell?_setCell_same wr ⟨b, off + m, none⟩ _ d0
          | r + 1, hu => simp at hu
        · rw [World.cell?_setCell_other _ _ _ _ (fun e => by injection e with _ e; omega)]
        · exact hkeep.setCell (p := ⟨b, off + m, none⟩) (fun h => h hFb) _
      clear hrow hkeep hcl hP hGF hback hpl hFb hcell HR
      go_wp2_with fail
      try rw [EC.out]
      go_roundw
      case rel => exact ⟨m + 1, by omega, by go_num, by go_num, RN⟩
      case measure => simp [intOf]; omega
    · have HK := Lib.hid hkeep
      have HE : Hid (IntRowO wr F A (mkN k l.length)) := Lib.hid (by
        have e : l' = mkN k l.length := List.ext_getElem? fun i => by
          by_cases hi : i < m
          · exact HD.out i hi
          · rw [List.getElem?_eq_none (by omega), List.getElem?_eq_none (by rw [mkN_length]; omega)]
        rw [← e]; exact hrow)
      clear hrow hkeep HR
      go_wp2_with fail
      go_ret
      exact ⟨ret_int (by omega), HE.out, HK.out⟩
set_option maxHeartbeats 1600000 in
set_option maxRecDepth 100000 in
theorem laws_markInsSH (l : List Ic) (A : Option Addr) (c k : Nat) (w : World) (F : Nat → Prop) (row : InsRowO w F A l) (hF : ∀ b, F b → b < w.heap.size) (hl : l.length ≤ c) (hc : c ≤ maxLen) (h0 : 0 < k) (h1 : k + imarks l ≤ 100000000) :
    Calls Try.prog 58 #[.slice A l.length c, .int .i64 (k : Int)] w fun e w' => e = .returned (.int .i64 ((k + imarks l : Nat) : Int)) ∧ InsRowO w' F A (mkIs k l) ∧ Keep (fun b => ¬ F b) w w' := by
  unfold maxLen at hc
  have RW := Lib.hid row
  have HF := Lib.hid hF
  clear row hF
  go_enter Try.func58, Try.ntmps58
  go_wp2_with fail
  go_loopw [1, 5] (fun n i wr => ∃ m : Nat, m ≤ l.length ∧ i = .int .i64 m ∧ n = .int .i64 ((k + imarks (l.take m) : Nat) : Int) ∧ Hid (∃ l' : List Ic, l'.length = l.length ∧ (∀ i, i < m → l'[i]? = (mkIs k l)[i]?) ∧ (∀ i, m ≤ i → l'[i]? = l[i]?) ∧ InsRowO wr F A l' ∧ Keep (fun b => ¬ F b) w wr)) (fun _ i _ => l.length - (intOf i).toNat)
  case atStart => exact ⟨0, Nat.zero_le _, rfl, by simp [imarks], Lib.hid ⟨l, rfl, fun i h => absurd h (by omega), fun _ _ => rfl, RW.out, Keep.refl _ _⟩⟩
  case round =>
    obtain ⟨m, hm, rfl, rfl, HR⟩ := hrel
    obtain ⟨l', hll, hdone, hsame, hrow, hkeep⟩ := HR.out
    have HD := Lib.hid hdone
    clear hdone
    by_cases hlt : m < l.length
    · have hlt' : m < l'.length := by omega
      have hel : l'[m] = l[m] := by
        have := hsame m (Nat.le_refl _)
        rw [List.getElem?_eq_getElem hlt', List.getElem?_eq_getElem hlt] at this
        injection this
      obtain ⟨b, off, G, cells, rfl, hcl, hcell, ⟨x, rfl, ho, ha, ht, _, _, _, htm⟩, hFb, hpl, hGF, hback⟩ := RowOf.focus (P := IcP) IcP.keepP hrow hlt'
      rw [hel] at ho ha ht htm
      obtain ⟨xop, xarg, xk, xn, xs, xA, xm, xc, xto⟩ := x
      obtain ⟨kids, heq, rfl, hl', hc', _, _, hs', hrow'⟩ := htm.inv
      have d0 := hcell 0 _ rfl
      have d1 := hcell 1 _ rfl
      have d2 := hcell 2 _ rfl
      have d3 := hcell 3 _ rfl
      have d4 := hcell 4 _ rfl
      have d5 := hcell 5 _ rfl
      have d6 := hcell 6 _ rfl
      simp only [Nat.add_zero] at d0
      have hlb := cell_lt d0
      have f0 := plain_free hpl (off + m * 7)
      have f1 := plain_free hpl (off + m * 7 + 1)
      have f2 := plain_free hpl (off + m * 7 + 2)
      have f3 := plain_free hpl (off + m * 7 + 3)
      have hnt := imarks_take l m hlt
      have hnl := imarks_take_le l (m + 1)
      have hnk : nodes l[m].term = 1 + nodess kids := by rw [heq, nodes]
      have HQ := Lib.hid heq
      have KP := Lib.hid hkeep
      have HPL := Lib.hid hpl
      have HBACK := Lib.hid hback
      have HGF := Lib.hid hGF
      have HR' := Lib.hid hrow'
      have HFW : Hid (∀ y, F y → y < wr.heap.size) := Lib.hid fun y hy => Nat.lt_of_lt_of_le (HF.out y hy) hkeep.size
      have HFB := Lib.hid hFb
      have HL := Lib.hid hll
      have HS := Lib.hid hsame
      have MG := Lib.hid (mkIs_get k l hlt)
      have HN : Hid (imarks (l.take (m + 1)) = imarks (l.take m) + (6 + 3 * nodess kids)) := Lib.hid (by omega)
      have HNK := Lib.hid hnk
      have hbd : k + imarks (l.take m) + 6 + 3 * nodess kids ≤ 100000000 := by omega
      have h0k : (0 : Int) ≤ (m : Int) := by omega
      generalize hK : k + imarks (l.take m) = K at *
      have HK := Lib.hid hK
      have hK0 : 0 < K := by omega
      have EC4 : Hid ((K : Int) + 1 + 1 + 1 + 1 = ((K + 4 : Nat) : Int)) := Lib.hid (by omega)
      have EC5 : Hid ((K : Int) + 1 + 1 + 1 + 1 + 1 = ((K + 5 : Nat) : Int)) := Lib.hid (by omega)
      have EC5' : Hid (((K + 4 : Nat) : Int) + 1 = ((K + 5 : Nat) : Int)) := Lib.hid (by omega)
      clear hK hrow hkeep hback hGF hrow' hcell hcl heq hnt hnl hnk hpl hFb HR hll hsame ho ha ht htm hel
      go_wp2_with fail
      try rw [EC4.out]
      obtain ⟨W4, hW4⟩ : ∃ W, (((wr.setCell ⟨b, off + m * 7, none⟩ (.int .i64 (K : Int))).setCell ⟨b, off + m * 7 + 1, none⟩ (.int .i64 ((K : Int) + 1))).setCell ⟨b, off + m * 7 + 2, none⟩ (.int .i64 ((K : Int) + 1 + 1))).setCell ⟨b, off + m * 7 + 3, none⟩ (.int .i64 ((K : Int) + 1 + 1 + 1)) = W := ⟨_, rfl⟩
      rw [hW4]
      obtain ⟨⟨v0, v1, v2, v3⟩, hother, hk4, hz4, hp4⟩ := four_sets d0 d1 d2 d3 hW4
      have K4 := Lib.hid hk4
      have P4 := Lib.hid (hp4 HPL.out)
      have O4 := Lib.hid hother
      have d4' : W4.cell? ⟨b, off + m * 7 + 4, none⟩ = some (.string xs) := (hother _ (.inr (Nat.le_refl _))).trans d4
      have d5' : W4.cell? ⟨b, off + m * 7 + 5, none⟩ = some (.slice xA kids.length xc) := (hother _ (.inr (by omega))).trans d5
      have d6' : W4.cell? ⟨b, off + m * 7 + 6, none⟩ = some (.int .i64 xto) := (hother _ (.inr (by omega))).trans d6
      have HZ4 : Hid (W4.heap.size = wr.heap.size) := Lib.hid hz4
      have hlb4 : b < W4.heap.size := by omega
      clear hW4 d0 d1 d2 d3 d4 d5 d6 f0 f1 f2 f3 hother hk4 hp4 hz4
      refine (laws_markText (K + 4) _ (by omega) (by omega)).mono ?_
      rintro e w1 ⟨rfl, b1⟩
      have B1 := Lib.hid b1
      have P1 := Lib.hid (plain_below P4.out b1)
      have e4 := cell_keep b1 d4'
      have e5 := cell_keep b1 d5'
      have e6 := cell_keep b1 d6'
      have V := Lib.hid (And.intro (cell_keep b1 v0) (And.intro (cell_keep b1 v1) (And.intro (cell_keep b1 v2) (And.intro (cell_keep b1 v3) (And.intro e4 (And.intro e5 e6))))))
      have g4 := plain_free P1.out (off + m * 7 + 4)
      have hz1 := b1.size
      have hlb1 : b < w1.heap.size := by omega
      have HO : Hid (∀ o, o < off + m * 7 ∨ off + m * 7 + 7 ≤ o → w1.cell? ⟨b, o, none⟩ = wr.cell? ⟨b, o, none⟩) := Lib.hid fun o ho => by
        rw [B1.out.cell (p := ⟨b, o, none⟩) hlb4]
        exact O4.out o (by omega)
      have HY : Hid (∀ y, y < wr.heap.size → y ≠ b → w1.heap[y]? = wr.heap[y]?) := Lib.hid fun y hy hne => by
        rw [B1.out.block y (by have := HZ4.out; omega)]
        exact K4.out.block y hy hne
      have hz41 : wr.heap.size ≤ w1.heap.size := by have := HZ4.out; omega
      clear b1 v0 v1 v2 v3 d4' d5' d6'
      have R2 : Hid (TmRowO (w1.setCell ⟨b, off + m * 7 + 4, none⟩ (.string (markT (K + 4)))) G xA kids) := Lib.hid (TmRowO.set (p := ⟨b, off + m * 7 + 4, none⟩) (HR'.out.keep fun y hy => HY.out y (HFW.out y (HGF.out y hy).1) (HGF.out y hy).2) (fun h => (HGF.out b h).2 rfl) _)
      go_wp2_with fail
      try rw [EC5'.out]
      try rw [EC5.out]
      refine (laws_markTermS kids (K + 5) xA xc _ G R2.out (fun y hy => by have := HFW.out y (HGF.out y hy).1; simp; omega) hl' hc' (by omega) (by omega)).mono ?_
      rintro e w2 ⟨rfl, r2, k2⟩
      have RR2 := Lib.hid r2
      have KK2 := Lib.hid k2
      have hGb : ¬ G b := fun h => (HGF.out b h).2 rfl
      have hz2 := k2.size
      have blk : w2.heap[b]? = (w1.setCell ⟨b, off + m * 7 + 4, none⟩ (.string (markT (K + 4)))).heap[b]? := k2.block b (by simpa using hlb1) hGb
      have HCB : Hid (∀ o, w2.cell? ⟨b, o, none⟩ = (w1.setCell ⟨b, off + m * 7 + 4, none⟩ (.string (markT (K + 4)))).cell? ⟨b, o, none⟩) := Lib.hid fun o => World.cell?_of_block (a := ⟨b, o, none⟩) blk
      have P2 : Hid (∃ cur e, w2.heap[b]? = some (.cells cur e (0, 0))) := Lib.hid (by obtain ⟨cur, e, hb⟩ := plain_set P1.out b (off + m * 7 + 4) (.string (markT (K + 4))); exact ⟨cur, e, blk.trans hb⟩)
      have h6 : w2.cell? ⟨b, off + m * 7 + 6, none⟩ = some (.int .i64 xto) := by rw [HCB.out, World.cell?_setCell_other _ _ _ _ (by simp)]; exact e6
      have g6 := plain_free P2.out (off + m * 7 + 6)
      simp only [World.size_setCell] at hz2
      clear r2 k2 blk e4 e5 e6 g4
      obtain ⟨TT, hTT⟩ : ∃ t : Nat, K + 5 + 3 * nodess kids = t := ⟨_, rfl⟩
      have HTT := Lib.hid hTT
      rw [hTT]
      have hTb : TT ≤ 100000000 := by omega
      clear hTT
      have RN : Hid (∃ l' : List Ic, l'.length = l.length ∧ (∀ i, i < m + 1 → l'[i]? = (mkIs k l)[i]?) ∧ (∀ i, m + 1 ≤ i → l'[i]? = l[i]?) ∧ InsRowO (w2.setCell ⟨b, off + m * 7 + 6, none⟩ (.int .i64 (TT : Int))) F (some ⟨b, off, none⟩) l' ∧ Keep (fun b => ¬ F b) w (w2.setCell ⟨b, off + m * 7 + 6, none⟩ (.int .i64 (TT : Int)))) := by
        refine Lib.hid ⟨l'.set m (mkI K l[m]), by rw [List.length_set]; exact HL.out, fun i hi => ?_, fun i hi => ?_, HBACK.out _ (V7.cells ⟨(K : Int), (K : Int) + 1, (K : Int) + 1 + 1, (K : Int) + 1 + 1 + 1, markT (K + 4), xA, kids.length, xc, (TT : Int)⟩) _ rfl (plain_set P2.out b (off + m * 7 + 6) _) (fun r u hu => ?_) (fun o ho => ?_) (fun y hy hne hG => ?_) ?_, ?_⟩
        · by_cases him : i = m
          · subst him
            rw [List.getElem?_set_self (by have := HL.out; omega), MG.out]
          · rw [List.getElem?_set_ne (by omega)]; exact HD.out i (by omega)
        · rw [List.getElem?_set_ne (by omega)]; exact HS.out i (by omega)
        · obtain ⟨q0, q1, q2, q3, q4, q5, q6⟩ := V.out
          match r, hu with
          | 0, hu => injection hu with hu; subst hu; rw [World.cell?_setCell_other _ _ _ _ (by simp), HCB.out, World.cell?_setCell_other _ _ _ _ (by simp), Nat.add_zero]; exact q0
          | 1, hu => injection hu with hu; subst hu; rw [World.cell?_setCell_other _ _ _ _ (by simp), HCB.out, World.cell?_setCell_other _ _ _ _ (by simp)]; exact q1
          | 2, hu => injection hu with hu; subst hu; rw [World.cell?_setCell_other _ _ _ _ (by simp), HCB.out, World.cell?_setCell_other _ _ _ _ (by simp)]; exact q2
          | 3, hu => injection hu with hu; subst hu; rw [World.cell?_setCell_other _ _ _ _ (by simp), HCB.out, World.cell?_setCell_other _ _ _ _ (by simp)]; exact q3
          | 4, hu => injection hu with hu; subst hu; rw [World.cell?_setCell_other _ _ _ _ (by simp), HCB.out]; exact World.cell?_setCell_same _ _ _ q4
          | 5, hu => injection hu with hu; subst hu; rw [World.cell?_setCell_other _ _ _ _ (by simp), HCB.out, World.cell?_setCell_other _ _ _ _ (by simp)]; exact q5
          | 6, hu => injection hu with hu; subst hu; exact World.cell?_setCell_same _ _ _ h6
          | r + 7, hu => simp [V7.cells] at hu
        · rw [World.cell?_setCell_other _ _ _ _ (fun e => by injection e with _ e; omega), HCB.out, World.cell?_setCell_other _ _ _ _ (fun e => by injection e with _ e; omega)]
          exact HO.out o ho
        · have hyl := HFW.out y hy
          rw [Below.heap_setCell _ _ _ _ hne, KK2.out.block y (by simp; omega) hG, Below.heap_setCell _ _ _ _ hne]
          exact HY.out y hyl hne
        · refine ⟨_, rfl, rfl, ?_, ?_, i64_nat (by omega), i64_nat (by omega), i64_nat (by have := HNK.out; have := HTT.out; omega), ?_⟩
          · show (K : Int) + 1 = ((K + 1 : Nat) : Int); omega
          · show (TT : Int) = ((K + 2 + 3 * nodes l[m].term : Nat) : Int); have := HNK.out; have := HTT.out; omega
          · show TmO _ G [.int .i64 ((K : Int) + 1 + 1), .int .i64 ((K : Int) + 1 + 1 + 1), .string (markT (K + 4)), .slice xA kids.length xc] (mkT (K + 2) l[m].term)
            rw [HQ.out, mkT_mk, show ((K : Int) + 1 + 1) = ((K + 2 : Nat) : Int) from by omega, show (((K + 2 : Nat) : Int) + 1) = ((K + 2 + 1 : Nat) : Int) from by omega]
            have := TmO.mk' (F := G) (w := w2.setCell ⟨b, off + m * 7 + 6, none⟩ (.int .i64 (TT : Int))) (k := ((K + 2 : Nat) : Int)) (n := ((K + 2 + 1 : Nat) : Int)) (s := markT (K + 2 + 2)) (A := xA) (c := xc) (kids := mkTs (K + 2 + 3) kids) (i64_nat (by omega)) (i64_nat (by omega)) (markT_le (by omega)) (by rw [mkTs_length]; exact hl') hc' (TmRowO.set (p := ⟨b, off + m * 7 + 6, none⟩) RR2.out hGb _)
            rw [mkTs_length] at this
            exact this
        · have q0 : Keep (fun y => ¬ F y) wr W4 := K4.out.mono (fun y _ h e => h (by rw [e]; exact HFB.out))
          have q1 := (q0.trans (Keep.of_below (S := fun y => ¬ F y) B1.out) (fun _ _ h => h)).setCell (p := ⟨b, off + m * 7 + 4, none⟩) (fun h => h HFB.out) (.string (markT (K + 4)))
          have q2 := q1.trans KK2.out (fun y _ h hg => h (HGF.out y hg).1)
          exact (KP.out.trans q2 (fun _ _ h => h)).setCell (p := ⟨b, off + m * 7 + 6, none⟩) (fun h => h HFB.out) _
      go_wp2_with fail
      go_roundw
      case rel => exact ⟨m + 1, by omega, by go_num, by rw [HN.out]; exact congrArg (Value.int .i64) (by have := HK.out; have := HTT.out; omega), RN⟩
      case measure => simp [intOf]; omega
    · have HK := Lib.hid hkeep
      have HE : Hid (InsRowO wr F A (mkIs k l)) := Lib.hid (by
        have e : l' = mkIs k l := List.ext_getElem? fun i => by
          by_cases hi : i < m
          · exact HD.out i hi
          · rw [List.getElem?_eq_none (by omega), List.getElem?_eq_none (by rw [mkIs_length]; omega)]
        rw [← e]; exact hrow)
      clear hrow hkeep HR hsame
      go_wp2_with fail
      go_ret
      exact ⟨ret_int (by rw [List.take_of_length_le (by omega)]), HE.out, HK.out⟩
set_option maxHeartbeats 1600000 in
theorem laws_markCodeH (p : Cd) (x : V5) (k : Nat) (w : World) (F : Nat → Prop) (hp : CdO w F x p) (hF : ∀ b, F b → b < w.heap.size) (h0 : 0 < k) (h1 : k + markC p ≤ 100000000) :
    Calls Try.prog 22 #[x.val p, .int .i64 (k : Int)] w fun e w' => e = .returned (.int .i64 ((k + markC p : Nat) : Int)) ∧ CdO w' F x (mkCd k p) ∧ Keep (fun b => ¬ F b) w w' := by
  obtain ⟨H, s, d, ⟨a0, b0, r0⟩, ⟨a1, b1, r1⟩, ⟨a2, b2, r2⟩, ⟨a3, b3, r3⟩, ⟨a4, b4, r4⟩⟩ := hp
  obtain ⟨gA, gc, lA, lc, pA, pc, eA, ec, iA, ic⟩ := x
  simp only at a0 b0 r0 a1 b1 r1 a2 b2 r2 a3 b3 r3 a4 b4 r4
  unfold V5.val
  simp only
  have HF := Lib.hid hF
  have S := Lib.hid s
  have D := Lib.hid d
  have hz : p.globals.length + p.locks.length + p.procs.length + p.entry.length + imarks p.ins = markC p := rfl
  have HZ := Lib.hid hz
  have hb : k + (p.globals.length + p.locks.length + p.procs.length + p.entry.length + imarks p.ins) ≤ 100000000 := h1
  have R0 := Lib.hid r0
  have R1 := Lib.hid r1
  have R2 := Lib.hid r2
  have R3 := Lib.hid r3
  have R4 := Lib.hid r4
  clear hF s d r0 r1 r2 r3 r4 hz h1
  go_enter Try.func22, Try.ntmps22
  go_wp2_with fail
  have B0 : Hid (Below w.heap.size w (w.alloc (.cells #[.slice gA p.globals.length gc, .slice lA p.locks.length lc, .slice pA p.procs.length pc, .slice eA p.entry.length ec, .slice iA p.ins.length ic] 48))) := Lib.hid (by repeat' first|exact .refl _ _|exact Nat.le_refl _|refine .alloc ?_ ?_ _|refine .setCell ?_ ?_ _|refine .drew ?_|refine below_drewN ?_ _|assumption|(simp;done)|(simp;omega))
  have BX0 : Hid (BoxB (w.alloc (.cells #[.slice gA p.globals.length gc, .slice lA p.locks.length lc, .slice pA p.procs.length pc, .slice eA p.entry.length ec, .slice iA p.ins.length ic] 48)) w.heap.size [.slice gA p.globals.length gc, .slice lA p.locks.length lc, .slice pA p.procs.length pc, .slice eA p.entry.length ec, .slice iA p.ins.length ic]) := Lib.hid (BoxB.lit rfl)
  have nb : ∀ y, F y → y ≠ w.heap.size := fun y hy e => by have := HF.out y hy; omega
  have NB := Lib.hid nb
  have HF0 : Hid (∀ b, F b → b < (w.alloc (.cells #[.slice gA p.globals.length gc, .slice lA p.locks.length lc, .slice pA p.procs.length pc, .slice eA p.entry.length ec, .slice iA p.ins.length ic] 48)).heap.size) := Lib.hid fun b hb => by have := HF.out b hb; simp; omega
  have KT0 : Hid (Keep (fun b => ¬ F b) w (w.alloc (.cells #[.slice gA p.globals.length gc, .slice lA p.locks.length lc, .slice pA p.procs.length pc, .slice eA p.entry.length ec, .slice iA p.ins.length ic] 48))) := Lib.hid (Keep.of_below B0.out)
  replace R0 := Lib.hid (R0.out.keep fun b hb => B0.out.block b (HF.out b (S.out 0 b hb)))
  replace R1 := Lib.hid (R1.out.keep fun b hb => B0.out.block b (HF.out b (S.out 1 b hb)))
  replace R2 := Lib.hid (R2.out.keep fun b hb => B0.out.block b (HF.out b (S.out 2 b hb)))
  replace R3 := Lib.hid (R3.out.keep fun b hb => B0.out.block b (HF.out b (S.out 3 b hb)))
  replace R4 := Lib.hid (R4.out.keep fun b hb => B0.out.block b (HF.out b (S.out 4 b hb)))
  obtain ⟨w0, hw0⟩ : ∃ W, w.alloc (.cells #[.slice gA p.globals.length gc, .slice lA p.locks.length lc, .slice pA p.procs.length pc, .slice eA p.entry.length ec, .slice iA p.ins.length ic] 48) = W := ⟨_, rfl⟩
  rw [hw0] at B0 BX0 HF0 KT0 R0 R1 R2 R3 R4 ⊢
  have hzz : w.heap.size < w0.heap.size := by rw [← hw0]; simp
  clear hw0 nb
  refine (laws_markStrRowH p.globals gA gc (k) w0 (H 0) R0.out (fun b hb => HF0.out b (S.out 0 b hb)) a0 b0 (by omega) (by omega)).mono ?_
  rintro e w1 ⟨rfl, m0, k0⟩
  have KK0 := Lib.hid k0
  have HF1 : Hid (∀ b, F b → b < w1.heap.size) := Lib.hid fun b hb => Nat.lt_of_lt_of_le (HF0.out b hb) KK0.out.size
  have BX1 := Lib.hid (BX0.out.keepS k0 (fun h => NB.out _ (S.out 0 _ h) rfl))
  have KT1 : Hid (Keep (fun b => ¬ F b) w w1) := Lib.hid (KT0.out.trans k0 (fun y _ h hg => h (S.out 0 y hg)))
  replace R1 := Lib.hid (R1.out.keep (w' := w1) fun b hb => KK0.out.block b (HF0.out b (S.out 1 b hb)) (fun h => D.out 0 1 b (by decide) h hb))
  replace R2 := Lib.hid (R2.out.keep (w' := w1) fun b hb => KK0.out.block b (HF0.out b (S.out 2 b hb)) (fun h => D.out 0 2 b (by decide) h hb))
  replace R3 := Lib.hid (R3.out.keep (w' := w1) fun b hb => KK0.out.block b (HF0.out b (S.out 3 b hb)) (fun h => D.out 0 3 b (by decide) h hb))
  replace R4 := Lib.hid (R4.out.keep (w' := w1) fun b hb => KK0.out.block b (HF0.out b (S.out 4 b hb)) (fun h => D.out 0 4 b (by decide) h hb))
  replace R0 := Lib.hid m0
  clear m0 k0
  have p1 := BX1.out 1 _ rfl
  go_wp2_with fail
  refine (laws_markStrRowH p.locks lA lc (k + p.globals.length) w1 (H 1) R1.out (fun b hb => HF1.out b (S.out 1 b hb)) a1 b1 (by omega) (by omega)).mono ?_
  rintro e w2 ⟨rfl, m1, k1⟩
  have KK1 := Lib.hid k1
  have HF2 : Hid (∀ b, F b → b < w2.heap.size) := Lib.hid fun b hb => Nat.lt_of_lt_of_le (HF1.out b hb) KK1.out.size
  have BX2 := Lib.hid (BX1.out.keepS k1 (fun h => NB.out _ (S.out 1 _ h) rfl))
  have KT2 : Hid (Keep (fun b => ¬ F b) w w2) := Lib.hid (KT1.out.trans k1 (fun y _ h hg => h (S.out 1 y hg)))
  replace R0 := Lib.hid (R0.out.keep (w' := w2) fun b hb => KK1.out.block b (HF1.out b (S.out 0 b hb)) (fun h => D.out 1 0 b (by decide) h hb))
  replace R2 := Lib.hid (R2.out.keep (w' := w2) fun b hb => KK1.out.block b (HF1.out b (S.out 2 b hb)) (fun h => D.out 1 2 b (by decide) h hb))
  replace R3 := Lib.hid (R3.out.keep (w' := w2) fun b hb => KK1.out.block b (HF1.out b (S.out 3 b hb)) (fun h => D.out 1 3 b (by decide) h hb))
  replace R4 := Lib.hid (R4.out.keep (w' := w2) fun b hb => KK1.out.block b (HF1.out b (S.out 4 b hb)) (fun h => D.out 1 4 b (by decide) h hb))
  replace R1 := Lib.hid m1
  clear m1 k1 p1
  have p2 := BX2.out 2 _ rfl
  go_wp2_with fail
  refine (laws_markStrRowH p.procs pA pc (k + p.globals.length + p.locks.length) w2 (H 2) R2.out (fun b hb => HF2.out b (S.out 2 b hb)) a2 b2 (by omega) (by omega)).mono ?_
  rintro e w3 ⟨rfl, m2, k2⟩
  have KK2 := Lib.hid k2
  have HF3 : Hid (∀ b, F b → b < w3.heap.size) := Lib.hid fun b hb => Nat.lt_of_lt_of_le (HF2.out b hb) KK2.out.size
  have BX3 := Lib.hid (BX2.out.keepS k2 (fun h => NB.out _ (S.out 2 _ h) rfl))
  have KT3 : Hid (Keep (fun b => ¬ F b) w w3) := Lib.hid (KT2.out.trans k2 (fun y _ h hg => h (S.out 2 y hg)))
  replace R0 := Lib.hid (R0.out.keep (w' := w3) fun b hb => KK2.out.block b (HF2.out b (S.out 0 b hb)) (fun h => D.out 2 0 b (by decide) h hb))
  replace R1 := Lib.hid (R1.out.keep (w' := w3) fun b hb => KK2.out.block b (HF2.out b (S.out 1 b hb)) (fun h => D.out 2 1 b (by decide) h hb))
  replace R3 := Lib.hid (R3.out.keep (w' := w3) fun b hb => KK2.out.block b (HF2.out b (S.out 3 b hb)) (fun h => D.out 2 3 b (by decide) h hb))
  replace R4 := Lib.hid (R4.out.keep (w' := w3) fun b hb => KK2.out.block b (HF2.out b (S.out 4 b hb)) (fun h => D.out 2 4 b (by decide) h hb))
  replace R2 := Lib.hid m2
  clear m2 k2 p2
  have p3 := BX3.out 3 _ rfl
  go_wp2_with fail
  refine (laws_markIntSH p.entry eA ec (k + p.globals.length + p.locks.length + p.procs.length) w3 (H 3) R3.out (fun b hb => HF3.out b (S.out 3 b hb)) a3 b3 (by omega) (by omega)).mono ?_
  rintro e w4 ⟨rfl, m3, k3⟩
  have KK3 := Lib.hid k3
  have HF4 : Hid (∀ b, F b → b < w4.heap.size) := Lib.hid fun b hb => Nat.lt_of_lt_of_le (HF3.out b hb) KK3.out.size
  have BX4 := Lib.hid (BX3.out.keepS k3 (fun h => NB.out _ (S.out 3 _ h) rfl))
  have KT4 : Hid (Keep (fun b => ¬ F b) w w4) := Lib.hid (KT3.out.trans k3 (fun y _ h hg => h (S.out 3 y hg)))
  replace R0 := Lib.hid (R0.out.keep (w' := w4) fun b hb => KK3.out.block b (HF3.out b (S.out 0 b hb)) (fun h => D.out 3 0 b (by decide) h hb))
  replace R1 := Lib.hid (R1.out.keep (w' := w4) fun b hb => KK3.out.block b (HF3.out b (S.out 1 b hb)) (fun h => D.out 3 1 b (by decide) h hb))
  replace R2 := Lib.hid (R2.out.keep (w' := w4) fun b hb => KK3.out.block b (HF3.out b (S.out 2 b hb)) (fun h => D.out 3 2 b (by decide) h hb))
  replace R4 := Lib.hid (R4.out.keep (w' := w4) fun b hb => KK3.out.block b (HF3.out b (S.out 4 b hb)) (fun h => D.out 3 4 b (by decide) h hb))
  replace R3 := Lib.hid m3
  clear m3 k3 p3
  have p4 := BX4.out 4 _ rfl
  go_wp2_with fail
  refine (laws_markInsSH p.ins iA ic (k + p.globals.length + p.locks.length + p.procs.length + p.entry.length) w4 (H 4) R4.out (fun b hb => HF4.out b (S.out 4 b hb)) a4 b4 (by omega) (by omega)).mono ?_
  rintro e w5 ⟨rfl, m4, k4⟩
  have KK4 := Lib.hid k4
  have HF5 : Hid (∀ b, F b → b < w5.heap.size) := Lib.hid fun b hb => Nat.lt_of_lt_of_le (HF4.out b hb) KK4.out.size
  have BX5 := Lib.hid (BX4.out.keepS k4 (fun h => NB.out _ (S.out 4 _ h) rfl))
  have KT5 : Hid (Keep (fun b => ¬ F b) w w5) := Lib.hid (KT4.out.trans k4 (fun y _ h hg => h (S.out 4 y hg)))
  replace R0 := Lib.hid (R0.out.keep (w' := w5) fun b hb => KK4.out.block b (HF4.out b (S.out 0 b hb)) (fun h => D.out 4 0 b (by decide) h hb))
  replace R1 := Lib.hid (R1.out.keep (w' := w5) fun b hb => KK4.out.block b (HF4.out b (S.out 1 b hb)) (fun h => D.out 4 1 b (by decide) h hb))
  replace R2 := Lib.hid (R2.out.keep (w' := w5) fun b hb => KK4.out.block b (HF4.out b (S.out 2 b hb)) (fun h => D.out 4 2 b (by decide) h hb))
  replace R3 := Lib.hid (R3.out.keep (w' := w5) fun b hb => KK4.out.block b (HF4.out b (S.out 3 b hb)) (fun h => D.out 4 3 b (by decide) h hb))
  replace R4 := Lib.hid m4
  clear m4 k4 p4
  have PG : Hid (CdO w5 F ⟨gA, gc, lA, lc, pA, pc, eA, ec, iA, ic⟩ (mkCd k p)) := Lib.hid ⟨H, S.out, D.out, ⟨by rw [mkCd, marksS_length]; exact a0, b0, R0.out⟩, ⟨by rw [mkCd, marksS_length]; exact a1, b1, R1.out⟩, ⟨by rw [mkCd, marksS_length]; exact a2, b2, R2.out⟩, ⟨by rw [mkCd, mkN_length]; exact a3, b3, R3.out⟩, ⟨by rw [mkCd, mkIs_length]; exact a4, b4, R4.out⟩⟩
  go_wp2_with fail
  go_ret
  exact ⟨ret_int (by rw [← HZ.out]; omega), PG.out, KT5.out⟩
set_option maxHeartbeats 800000 in
theorem laws_heldIntS (n : Nat) (A : Option Addr) (c k : Nat) (w : World) (rd : Rd w 1 A n ((mkN k n).map (Value.int .i64))) (hl : n ≤ c) (hc : c ≤ maxLen) (h0 : 0 < k) (h1 : k + n ≤ 100000000) :
    Calls Try.prog 60 #[.slice A n c, .int .i64 (k : Int)] w fun e w' => e = .returned (.int .i64 ((k + n : Nat) : Int)) ∧ w = w' := by
  unfold maxLen at hc
  have RD := Lib.hid rd
  clear rd
  go_enter Try.func60, Try.ntmps60
  go_wp2_with fail
  go_loop [1, 5] (fun kk i => ∃ j : Nat, j ≤ n ∧ i = .int .i64 j ∧ kk = .int .i64 ((k + j : Nat) : Int)) (fun _ i => n - (intOf i).toNat)
  case atStart => exact ⟨0, Nat.zero_le _, rfl, rfl⟩
  case round =>
    obtain ⟨j, hj, rfl, rfl⟩ := hrel
    by_cases hlt : j < n
    · obtain ⟨b, off, rfl, hc0⟩ := RD.out.2 (by omega)
      have d0 : w.cell? ⟨b, off + j, none⟩ = some (.int .i64 ((k + j : Nat) : Int)) := hc0 j _ (by rw [List.getElem?_map, mkN_get _ _ _ hlt]; rfl)
      have EC : Hid ((k : Int) + (j : Int) = ((k + j : Nat) : Int)) := Lib.hid (by omega)
      have h0j : (0 : Int) ≤ (j : Int) := by omega
      generalize hK : k + j = K at *
      have HK := Lib.hid hK
      have q0 : (((K : Nat) : Int) != ((K : Nat) : Int)) = false := by simp
      have hKb : K ≤ 100000000 := by omega
      clear hK hc0
      go_wp2_with fail
      go_round
      case rel => exact ⟨j + 1, by omega, by go_num, congrArg (Value.int .i64) (by have := HK.out; omega)⟩
      case measure => simp [intOf]; omega
    · have e : j = n := by omega
      subst e
      go_wp2_with fail
      go_ret
      exact ⟨rfl, rfl⟩
set_option maxHeartbeats 2000000 in
set_option maxRecDepth 100000 in
theorem laws_heldInsS (l : List Ic) (A : Option Addr) (c k : Nat) (w : World) (row : IcRow AnyB w A (mkIs k l)) (hl : l.length ≤ c) (hc : c ≤ maxLen) (h0 : 0 < k) (h1 : k + imarks l ≤ 100000000) :
    Calls Try.prog 61 #[.slice A l.length c, .int .i64 (k : Int)] w fun e w' => e = .returned (.int .i64 ((k + imarks l : Nat) : Int)) ∧ Below w.heap.size w w' := by
  unfold maxLen at hc
  have RW := Lib.hid row
  clear row
  go_enter Try.func61, Try.ntmps61
  go_wp2_with fail
  go_loopw [1, 5] (fun n i wr => ∃ m : Nat, m ≤ l.length ∧ i = .int .i64 m ∧ n = .int .i64 ((k + imarks (l.take m) : Nat) : Int) ∧ Below w.heap.size w wr) (fun _ i _ => l.length - (intOf i).toNat)
  case atStart => exact ⟨0, Nat.zero_le _, rfl, by simp [imarks], Below.refl _ _⟩
  case round =>
    obtain ⟨m, hm, rfl, rfl, hb⟩ := hrel
    have HB := Lib.hid hb
    clear hb
    by_cases hlt : m < l.length
    · have hjm : m < (mkIs k l).length := by rw [mkIs_length]; exact hlt
      obtain ⟨b, off, x, rfl, _, ⟨d0, d1, d2, d3, d4, d5, d6⟩, hp⟩ := rd_ins (RW.out.belowA HB.out) hjm
      have hg := mkIs_get k l hlt
      rw [List.getElem?_eq_getElem hjm] at hg
      injection hg with hg
      rw [hg] at hp
      obtain ⟨xop, xarg, xk, xn, xs, xA, xm, xc, xto⟩ := x
      obtain ⟨q1, q2, q3, _, _, _, q6⟩ := hp
      simp only [mkI] at q1 q2 q3 q6 d0 d1 d2 d3 d4 d5 d6
      obtain ⟨ta, tb, ts, kids, heq⟩ : ∃ a b s kids, l[m].term = Tm.mk a b s kids := by
        cases l[m].term
        exact ⟨_, _, _, _, rfl⟩
      rw [heq, mkT_mk] at q6
      obtain ⟨kids', heq', hm', hl', hc', _, _, hs', hrow'⟩ := q6.inv
      injection heq' with e0 e1 e2 e3
      subst e0 e1 e2 e3
      rw [mkTs_length] at hm' hl'
      subst hm' q1 q2 q3
      have hnt := imarks_take l m hlt
      have hnl := imarks_take_le l (m + 1)
      have hnk : nodes l[m].term = 1 + nodess kids := by rw [heq, nodes]
      have HN : Hid (imarks (l.take (m + 1)) = imarks (l.take m) + (6 + 3 * nodess kids)) := Lib.hid (by omega)
      have hbd : k + imarks (l.take m) + 6 + 3 * nodess kids ≤ 100000000 := by omega
      rw [hnk] at d6
      generalize hK : k + imarks (l.take m) = K at *
      have HK := Lib.hid hK
      have HR' := Lib.hid hrow'
      have hK0 : 0 < K := by omega
      have h0k : (0 : Int) ≤ (m : Int) := by omega
      have h1k : (m : Int) < (l.length : Int) := by omega
      rw [show ((K + 1 : Nat) : Int) = (K : Int) + 1 from by omega] at d1
      rw [show ((K + 2 : Nat) : Int) = (K : Int) + 1 + 1 from by omega] at d2
      rw [show ((K + 2 + 1 : Nat) : Int) = (K : Int) + 1 + 1 + 1 from by omega] at d3
      rw [show K + 2 + 2 = K + 4 from rfl] at d4
      obtain ⟨TT, hTT⟩ : ∃ t : Nat, K + 5 + 3 * nodess kids = t := ⟨_, rfl⟩
      rw [show K + 2 + 3 * (1 + nodess kids) = TT from by omega] at d6
      have HTT := Lib.hid hTT
      have q0 : (((K : Nat) : Int) != ((K : Nat) : Int)) = false := by simp
      have q1 : ((K : Int) + 1 != (K : Int) + 1) = false := by simp
      have q2 : ((K : Int) + 1 + 1 != (K : Int) + 1 + 1) = false := by simp
      have q3 : ((K : Int) + 1 + 1 + 1 != (K : Int) + 1 + 1 + 1) = false := by simp
      have q6 : ((TT : Int) != (TT : Int)) = false := by simp
      have EC : Hid ((K : Int) + 1 + 1 + 1 + 1 = ((K + 4 : Nat) : Int)) := Lib.hid (by omega)
      have EC5 : Hid ((K : Int) + 1 + 1 + 1 + 1 + 1 = ((K + 5 : Nat) : Int)) := Lib.hid (by omega)
      have he : ((markT (K + 4)).toList == (markT (K + 4)).toList) = true := by simp
      have hneg : ¬ ((TT : Int) < 0) := by omega
      have hTb : TT + 1 ≤ 100000000 := by omega
      clear hK hg hnt hnl hnk heq hjm hs' hrow' hTT
      go_wp2_with fail
      go_region_held3 (fun w' => w'.cell? ⟨b, off + m * 7 + 4, none⟩ = some (.string (markT (K + 4))) ∧ w'.cell? ⟨b, off + m * 7 + 5, none⟩ = some (.slice xA kids.length xc) ∧ w'.cell? ⟨b, off + m * 7 + 6, none⟩ = some (.int .i64 (TT : Int)))
        (first | exact ⟨d4, d5, d6⟩ | exact ⟨cell_keep b1 d4, cell_keep b1 d5, cell_keep b1 d6⟩ | go_keep)
        (first | (go_at_call 89; (try rw [EC.out]); refine (laws_markText (K + 4) _ (by omega) (by omega)).mono ?_; rintro e w1 ⟨rfl, b1⟩) | fail)
      all_goals
        have e5 := cell_keep b1 d5
        have e6 := cell_keep b1 d6
        have B1 := Lib.hid b1
        go_wp2_with fail
        try rw [EC5.out]
        refine (laws_heldTermS kids (K + 5) xA xc _ ((HR'.out.belowA (Below.refl _ _).drew).belowA B1.out) hl' hc' (by omega) (by omega)).mono ?_
        rintro e w2 ⟨rfl, b2⟩
        have g6 := cell_keep b2 e6
        have B2 := Lib.hid (below_then (below_then HB.out.drew B1.out) b2)
        rw [HTT.out]
        clear b2
        go_wp2_with fail
        go_roundw
        case rel => exact ⟨m + 1, by omega, by go_num, by rw [HN.out]; exact congrArg (Value.int .i64) (by have := HK.out; have := HTT.out; omega), B2.out⟩
        case measure => simp [intOf]; omega
    · go_wp2_with fail
      go_ret
      exact ⟨ret_int (by rw [List.take_of_length_le (by omega)]), HB.out⟩
set_option maxHeartbeats 1600000 in
set_option maxRecDepth 100000 in
theorem laws_heldCode (p : Cd) (x : V5) (k : Nat) (w : World) (hp : CdIs w x (mkCd k p)) (h0 : 0 < k) (h1 : k + markC p ≤ 20000000) (h2 : p.globals.length ≤ 1000 ∧ p.locks.length ≤ 1000 ∧ p.procs.length ≤ 1000) :
    Calls Try.prog 23 #[x.val p, .int .i64 (k : Int)] w fun e w' => e = .returned (.int .i64 ((k + markC p : Nat) : Int)) ∧ Below w.heap.size w w' := by
  obtain ⟨gA, gc, lA, lc, pA, pc, eA, ec, iA, ic⟩ := x
  have I0 := Lib.hid hp.gs
  have I1 := Lib.hid hp.ls
  have I2 := Lib.hid hp.ps
  have I3 := Lib.hid hp.e3
  have I4 := Lib.hid hp.i3
  have c3 := hp.e1
  have d3 := hp.e2
  have c4 := hp.i1
  have d4 := hp.i2
  clear hp
  unfold V5.val
  simp only [mkCd, marksS_length, mkN_length, mkIs_length] at I0 I1 I2 I3 I4 c3 c4 d3 d4 ⊢
  have hz : p.globals.length + p.locks.length + p.procs.length + p.entry.length + imarks p.ins = markC p := rfl
  have HZ := Lib.hid hz
  have hb : k + (p.globals.length + p.locks.length + p.procs.length + p.entry.length + imarks p.ins) ≤ 20000000 := h1
  clear hz h1
  have n0 : ¬ (((k + p.globals.length : Nat) : Int) < 0) := by omega
  have n1 : ¬ (((k + p.globals.length + p.locks.length : Nat) : Int) < 0) := by omega
  have n2 : ¬ (((k + p.globals.length + p.locks.length + p.procs.length : Nat) : Int) < 0) := by omega
  have n3 : ¬ (((k + p.globals.length + p.locks.length + p.procs.length + p.entry.length : Nat) : Int) < 0) := by omega
  have n4 : ¬ (((k + p.globals.length + p.locks.length + p.procs.length + p.entry.length + imarks p.ins : Nat) : Int) < 0) := by omega
  go_enter Try.func23, Try.ntmps23
  go_wp2_with fail
  have B0 : Hid (Below w.heap.size w (w.alloc (.cells #[.slice gA p.globals.length gc, .slice lA p.locks.length lc, .slice pA p.procs.length pc, .slice eA p.entry.length ec, .slice iA p.ins.length ic] 48))) := Lib.hid (by repeat' first|exact .refl _ _|exact Nat.le_refl _|refine .alloc ?_ ?_ _|refine .setCell ?_ ?_ _|refine .drew ?_|refine below_drewN ?_ _|assumption|(simp;done)|(simp;omega))
  have BX0 : Hid (BoxB (w.alloc (.cells #[.slice gA p.globals.length gc, .slice lA p.locks.length lc, .slice pA p.procs.length pc, .slice eA p.entry.length ec, .slice iA p.ins.length ic] 48)) w.heap.size [.slice gA p.globals.length gc, .slice lA p.locks.length lc, .slice pA p.procs.length pc, .slice eA p.entry.length ec, .slice iA p.ins.length ic]) := Lib.hid (BoxB.lit rfl)
  obtain ⟨w0, hw0⟩ : ∃ W, w.alloc (.cells #[.slice gA p.globals.length gc, .slice lA p.locks.length lc, .slice pA p.procs.length pc, .slice eA p.entry.length ec, .slice iA p.ins.length ic] 48) = W := ⟨_, rfl⟩
  rw [hw0] at B0 BX0 ⊢
  clear hw0
  refine (laws_heldStringS _ p.globals.length (k) w0 (I0.out.below B0.out) (by omega) (by omega) (by omega)).mono ?_
  rintro e w1 ⟨rfl, b0⟩
  have BX1 := Lib.hid (BX0.out.below b0)
  have B1 := Lib.hid (below_then B0.out b0)
  clear b0
  have p1 := BX1.out 1 _ rfl
  go_wp2_with fail
  refine (laws_heldStringS _ p.locks.length (k + p.globals.length) w1 (I1.out.below B1.out) (by omega) (by omega) (by omega)).mono ?_
  rintro e w2 ⟨rfl, b1⟩
  have BX2 := Lib.hid (BX1.out.below b1)
  have B2 := Lib.hid (below_then B1.out b1)
  clear b1 p1
  have p2 := BX2.out 2 _ rfl
  go_wp2_with fail
  refine (laws_heldStringS _ p.procs.length (k + p.globals.length + p.locks.length) w2 (I2.out.below B2.out) (by omega) (by omega) (by omega)).mono ?_
  rintro e w3 ⟨rfl, b2⟩
  have BX3 := Lib.hid (BX2.out.below b2)
  have B3 := Lib.hid (below_then B2.out b2)
  clear b2 p2
  have p3 := BX3.out 3 _ rfl
  go_wp2_with fail
  refine (laws_heldIntS p.entry.length eA ec (k + p.globals.length + p.locks.length + p.procs.length) w3 (I3.out.below B3.out) c3 d3 (by omega) (by omega)).mono ?_
  rintro e w4 ⟨rfl, hw⟩
  have b3 : Below w3.heap.size w3 w4 := hw ▸ Below.refl _ _
  clear hw
  have BX4 := Lib.hid (BX3.out.below b3)
  have B4 := Lib.hid (below_then B3.out b3)
  clear b3 p3
  have p4 := BX4.out 4 _ rfl
  go_wp2_with fail
  refine (laws_heldInsS p.ins iA ic (k + p.globals.length + p.locks.length + p.procs.length + p.entry.length) w4 (I4.out.belowA B4.out) c4 d4 (by omega) (by omega)).mono ?_
  rintro e w5 ⟨rfl, b4⟩
  have BX5 := Lib.hid (BX4.out.below b4)
  have B5 := Lib.hid (below_then B4.out b4)
  clear b4 p4
  go_wp2_with fail
  go_ret
  exact ⟨ret_int (by rw [← HZ.out]; omega), B5.out⟩
end Go.Proofs.Ytadcebdhgocmhaa
