/- Lemmas for the row. -/
import Derived.Test.YtadcebdhgocmhaaKo18
import Derived.Test.YtadcebdhgocmhaaKo10
namespace Go.Proofs.Ytadcebdhgocmhaa
open Go.RowKit
set_option linter.unusedVariables false
mutual
def smarks : St → Nat | .mk _ _ t b e => 5 + 3 * nodess t.kids + smarkss b + smarkss e
def smarkss : List St → Nat | [] => 0 | g :: r => smarks g + smarkss r
end
mutual
def mkG (k : Nat) : St → St
  | .mk _ _ t b e => .mk (k : Int) (markT (k + 1)) (.mk ((k + 2 : Nat) : Int) ((k + 3 : Nat) : Int) (markT (k + 4)) (mkTs (k + 5) t.kids)) (mkGs (k + 5 + 3 * nodess t.kids) b) (mkGs (k + 5 + 3 * nodess t.kids + smarkss b) e)
def mkGs (k : Nat) : List St → List St
  | [] => []
  | g :: r => mkG k g :: mkGs (k + smarks g) r
end
theorem mkGs_length (k : Nat) (l : List St) : (mkGs k l).length = l.length := by
  induction l generalizing k with
  | nil => simp [mkGs]
  | cons t r ih => simp [mkGs, ih]
theorem smarkss_append (l r : List St) : smarkss (l ++ r) = smarkss l + smarkss r := by
  induction l with
  | nil => simp [smarkss]
  | cons y t ih => rw [List.cons_append, smarkss, smarkss, ih]; omega
theorem mkGs_append (k : Nat) (l r : List St) : mkGs k (l ++ r) = mkGs k l ++ mkGs (k + smarkss l) r := by
  induction l generalizing k with
  | nil => simp [mkGs, smarkss]
  | cons y t ih => rw [List.cons_append, mkGs, mkGs, ih, smarkss, List.cons_append]; congr 3; omega
theorem smarkss_take (l : List St) (i : Nat) (h : i < l.length) : smarkss (l.take (i + 1)) = smarkss (l.take i) + smarks l[i] := by
  have e : l.take (i + 1) = l.take i ++ [l[i]] := List.take_succ_eq_append_getElem h
  rw [e, smarkss_append]; simp [smarkss]
theorem smarkss_take_le (l : List St) (i : Nat) : smarkss (l.take i) ≤ smarkss l := by
  have e : smarkss l = smarkss (l.take i) + smarkss (l.drop i) := by rw [← smarkss_append, List.take_append_drop]
  omega
theorem kids_tot (t : Tm) : nodess t.kids ≤ totT t := by
  obtain ⟨_, _, _, kids⟩ := t
  rw [totT]
  have := nodess_tot kids
  show nodess kids ≤ _
  omega
mutual
theorem smarks_tot : (g : St) → smarks g ≤ 5 + 5 * totG g
  | .mk k s t b e => by rw [smarks, totG]; have := smarkss_tot b; have := smarkss_tot e; have := kids_tot t; omega
theorem smarkss_tot : (l : List St) → smarkss l ≤ 5 * totGs l
  | [] => by simp [smarkss, totGs]
  | g :: r => by rw [smarkss, totGs]; have := smarks_tot g; have := smarkss_tot r; omega
end
def mixGt (k : Nat) (l : List St) (i : Nat) : List St := mkGs k (l.take i) ++ l.drop i
theorem mixGt_zero (k : Nat) (l : List St) : mixGt k l 0 = l := by simp [mixGt, mkGs]
theorem mixGt_all (k : Nat) (l : List St) {i : Nat} (h : l.length ≤ i) : mixGt k l i = mkGs k l := by simp [mixGt, List.take_of_length_le h, List.drop_of_length_le h]
theorem mixGt_length (k : Nat) (l : List St) {i : Nat} (h : i ≤ l.length) : (mixGt k l i).length = l.length := by simp [mixGt, mkGs_length]; omega
theorem mixGt_get (k : Nat) (l : List St) {i : Nat} (h : i < l.length) (h' : i < (mixGt k l i).length) : (mixGt k l i)[i] = l[i] := by
  have hl : (mkGs k (l.take i)).length = i := by rw [mkGs_length, List.length_take]; omega
  have e : (mixGt k l i)[i]? = some l[i] := by unfold mixGt; rw [List.getElem?_append_right (by omega), hl, Nat.sub_self, List.getElem?_drop]; simp [h]
  rw [List.getElem?_eq_getElem h'] at e
  injection e
theorem mixGt_set (k : Nat) (l : List St) {i : Nat} (h : i < l.length) : (mixGt k l i).set i (mkG (k + smarkss (l.take i)) l[i]) = mixGt k l (i + 1) := by
  have hl : (mkGs k (l.take i)).length = i := by rw [mkGs_length, List.length_take]; omega
  have e : l.take (i + 1) = l.take i ++ [l[i]] := List.take_succ_eq_append_getElem h
  unfold mixGt
  rw [e, mkGs_append, List.set_append_right _ _ (by omega), hl, Nat.sub_self, List.drop_eq_getElem_cons h, List.set_cons_zero, List.append_assoc]
  simp [mkGs]
theorem mkG_mk (k : Nat) (a : Int) (s : ByteArray) (t : Tm) (b e : List St) : mkG k (.mk a s t b e) = .mk (k : Int) (markT (k + 1)) (.mk ((k + 2 : Nat) : Int) ((k + 3 : Nat) : Int) (markT (k + 4)) (mkTs (k + 5) t.kids)) (mkGs (k + 5 + 3 * nodess t.kids) b) (mkGs (k + 5 + 3 * nodess t.kids + smarkss b) e) := by rw [mkG]
abbrev MgC (l : List St) : Prop := ∀ (k : Nat) (A : Option Addr) (c : Nat) (w : World) (F : Nat → Prop), StRowO w F A l → (∀ b, F b → b < w.heap.size) → l.length ≤ c → c ≤ maxLen → 0 < k → k + smarkss l ≤ 100000000 →
  Calls Try.prog 90 #[.slice A l.length c, .int .i64 (k : Int)] w fun e w' => e = .returned (.int .i64 ((k + smarkss l : Nat) : Int)) ∧ StRowO w' F A (mkGs k l) ∧ Keep (fun b => ¬ F b) w w'
set_option maxHeartbeats 2000000 in
set_option maxRecDepth 100000 in
theorem laws_markStmtS_at (l : List St) (ih : ∀ g ∈ l, ∀ k s t body els, g = .mk k s t body els → MgC body ∧ MgC els) : MgC l := by
  intro k A c w F row hF hl hc h0 h1
  unfold maxLen at hc
  have IH := Lib.hid ih
  have RW := Lib.hid row
  have HF := Lib.hid hF
  clear ih row hF
  go_enter Try.func90, Try.ntmps90
  go_wp2_with fail
  go_loopw [1, 5] (fun kk i wr => ∃ j : Nat, j ≤ l.length ∧ i = .int .i64 j ∧ kk = .int .i64 ((k + smarkss (l.take j) : Nat) : Int) ∧ Hid (StRowO wr F A (mixGt k l j) ∧ Keep (fun b => ¬ F b) w wr)) (fun _ i _ => l.length - (intOf i).toNat)
  case atStart => exact ⟨0, Nat.zero_le _, rfl, by simp [smarkss], Lib.hid ⟨by rw [mixGt_zero]; exact RW.out, Keep.refl _ _⟩⟩
  case round =>
    obtain ⟨j, hj, rfl, rfl, HR⟩ := hrel
    by_cases hlt : j < l.length
    case neg =>
      go_wp2_with fail
      go_ret
      obtain ⟨hrow, hkeep⟩ := HR.out
      rw [mixGt_all k l (by omega)] at hrow
      exact ⟨ret_int (by rw [List.take_of_length_le (by omega)]), hrow, hkeep⟩
    obtain ⟨hrow, hkeep⟩ := HR.out
    have hlm := mixGt_length k l hj
    have hjm : j < (mixGt k l j).length := by omega
    obtain ⟨b, off, G, cells, rfl, hcl, hcell, ⟨x, rfl, hP⟩, hFb, hpl, hGF, hback⟩ := RowOf.focus (P := StP) StP.keepP hrow hjm
    rw [mixGt_get k l hlt hjm] at hP
    obtain ⟨T, B, E, t, body, els, heq, _, _, hT, hb1, hb2, hb3, hB, he1, he2, he3, hE, sT, sB, sE, dTB, dTE, dBE⟩ := hP.inv
    obtain ⟨xk, xs, tk, tn, ts, tA, tm, tc, bA, bm, bc, eA, em, ec⟩ := x
    simp only at hb1 he1 hb2 hb3 he2 he3 hB hE
    subst hb1 he1
    obtain ⟨kids, rfl, rfl, hl', hc', _, _, _, hK⟩ := TmO.inv (show TmO wr T [.int .i64 tk, .int .i64 tn, .string ts, .slice tA tm tc] t from hT)
    have d0 := hcell 0 _ rfl
    have d1 := hcell 1 _ rfl
    have d2 := hcell 2 _ rfl
    have d3 := hcell 3 _ rfl
    have d4 := hcell 4 _ rfl
    have d5 := hcell 5 _ rfl
    have d6 := hcell 6 _ rfl
    have d7 := hcell 7 _ rfl
    simp only [Nat.add_zero] at d0
    have hlb := cell_lt d0
    have f0 := plain_free hpl (off + j * 8)
    have hnt := smarkss_take l j hlt
    have hnl := smarkss_take_le l (j + 1)
    have hnk : smarks l[j] = 5 + 3 * nodess kids + smarkss body + smarkss els := by rw [heq, smarks]; rfl
    have VB := Lib.hid (IH.out l[j] (List.getElem_mem hlt) _ _ _ body els heq).1
    have VE := Lib.hid (IH.out l[j] (List.getElem_mem hlt) _ _ _ body els heq).2
    have HQ := Lib.hid heq
    have KP := Lib.hid hkeep
    have HPL := Lib.hid hpl
    have HBACK := Lib.hid hback
    have HGF := Lib.hid hGF
    have HK' := Lib.hid hK
    have HB' := Lib.hid hB
    have HE' := Lib.hid hE
    have SS := Lib.hid (And.intro sT (And.intro sB sE))
    have DD := Lib.hid (And.intro dTB (And.intro dTE dBE))
    have HFW : Hid (∀ y, F y → y < wr.heap.size) := Lib.hid fun y hy => Nat.lt_of_lt_of_le (HF.out y hy) hkeep.size
    have HFB := Lib.hid hFb
    have HN : Hid (smarkss (l.take (j + 1)) = smarkss (l.take j) + (5 + 3 * nodess kids + smarkss body + smarkss els)) := Lib.hid (by omega)
    have hbd : k + smarkss (l.take j) + 5 + 3 * nodess kids + smarkss body + smarkss els ≤ 100000000 := by omega
    have h0k : (0 : Int) ≤ (j : Int) := by omega
    generalize hK2 : k + smarkss (l.take j) = K at *
    have HK := Lib.hid hK2
    have hK0 : 0 < K := by omega
    clear hK2 hrow hkeep hback hGF hcell hcl hP heq hnt hnl hnk hlm hpl hFb HR hT hK hB hE sT sB sE dTB dTE dBE
    go_wp2_with fail
    refine (laws_markText (K + 1) _ (by omega) (by omega)).mono ?_
    rintro e w1 ⟨rfl, b1⟩
    have B1 := Lib.hid b1
    have c1 : Hid (∀ o, w1.cell? ⟨b, o, none⟩ = (wr.setCell ⟨b, off + j * 8, none⟩ (.int .i64 (K : Int))).cell? ⟨b, o, none⟩) := Lib.hid fun o => b1.cell (p := ⟨b, o, none⟩) (by simpa using hlb)
    have P1 := Lib.hid (plain_below (plain_set HPL.out b (off + j * 8) (.int .i64 (K : Int))) b1)
    have y1 : Hid (∀ y, y < wr.heap.size → y ≠ b → w1.heap[y]? = wr.heap[y]?) := Lib.hid fun y hy hne => by rw [b1.block y (by simpa using hy), Below.heap_setCell _ _ _ _ hne]
    have hz1 : wr.heap.size ≤ w1.heap.size := by have := b1.size; simpa using this
    have hlb1 : b < w1.heap.size := by omega
    have e1 : w1.cell? ⟨b, off + j * 8 + 1, none⟩ = some (.string xs) := by rw [c1.out, World.cell?_setCell_other _ _ _ _ (by simp)]; exact d1
    have e2 : w1.cell? ⟨b, off + j * 8 + 2, none⟩ = some (.int .i64 tk) := by rw [c1.out, World.cell?_setCell_other _ _ _ _ (by simp)]; exact d2
    have e3 : w1.cell? ⟨b, off + j * 8 + 3, none⟩ = some (.int .i64 tn) := by rw [c1.out, World.cell?_setCell_other _ _ _ _ (by simp)]; exact d3
    have f1 := plain_free P1.out (off + j * 8 + 1)
    have f2 := plain_free P1.out (off + j * 8 + 2)
    have f3 := plain_free P1.out (off + j * 8 + 3)
    have D := Lib.hid (And.intro d0 (And.intro d4 (And.intro d5 (And.intro d6 d7))))
    clear b1 d0 d1 d2 d3 d4 d5 d6 d7 f0
    go_wp2_with fail
    refine (laws_markText (K + 4) _ (by omega) (by omega)).mono ?_
    rintro e w2 ⟨rfl, b2⟩
    have B2 := Lib.hid b2
    have c2 : Hid (∀ o, w2.cell? ⟨b, o, none⟩ = (((w1.setCell ⟨b, off + j * 8 + 1, none⟩ (.string (markT (K + 1)))).setCell ⟨b, off + j * 8 + 2, none⟩ (.int .i64 ((K : Int) + 1 + 1))).setCell ⟨b, off + j * 8 + 2 + 1, none⟩ (.int .i64 ((K : Int) + 1 + 1 + 1))).cell? ⟨b, o, none⟩) := Lib.hid fun o => b2.cell (p := ⟨b, o, none⟩) (by simpa using hlb1)
    have P2 := Lib.hid (plain_below (plain_set (plain_set (plain_set P1.out b (off + j * 8 + 1) (.string (markT (K + 1)))) b (off + j * 8 + 2) (.int .i64 ((K : Int) + 1 + 1))) b (off + j * 8 + 2 + 1) (.int .i64 ((K : Int) + 1 + 1 + 1))) b2)
    have y2 : Hid (∀ y, y < wr.heap.size → y ≠ b → w2.heap[y]? = wr.heap[y]?) := Lib.hid fun y hy hne => by rw [b2.block y (by simp; omega), Below.heap_setCell _ _ _ _ hne, Below.heap_setCell _ _ _ _ hne, Below.heap_setCell _ _ _ _ hne]; exact y1.out y hy hne
    have hz2 : w1.heap.size ≤ w2.heap.size := by have := b2.size; simpa using this
    have hlb2 : b < w2.heap.size := by omega
    have v0 : w2.cell? ⟨b, off + j * 8, none⟩ = some (.int .i64 (K : Int)) := by rw [c2.out, World.cell?_setCell_other _ _ _ _ (by simp), World.cell?_setCell_other _ _ _ _ (by simp), World.cell?_setCell_other _ _ _ _ (by simp), c1.out]; exact World.cell?_setCell_same _ _ _ D.out.1
    have v1 : w2.cell? ⟨b, off + j * 8 + 1, none⟩ = some (.string (markT (K + 1))) := by rw [c2.out, World.cell?_setCell_other _ _ _ _ (by simp), World.cell?_setCell_other _ _ _ _ (by simp)]; exact World.cell?_setCell_same _ _ _ e1
    have v2 : w2.cell? ⟨b, off + j * 8 + 2, none⟩ = some (.int .i64 ((K : Int) + 1 + 1)) := by rw [c2.out, World.cell?_setCell_other _ _ _ _ (by simp)]; exact World.cell?_setCell_same _ _ _ (by rw [World.cell?_setCell_other _ _ _ _ (by simp)]; exact e2)
    have v3 : w2.cell? ⟨b, off + j * 8 + 3, none⟩ = some (.int .i64 ((K : Int) + 1 + 1 + 1)) := by rw [c2.out]; exact World.cell?_setCell_same _ ⟨b, off + j * 8 + 3, none⟩ _ (by rw [World.cell?_setCell_other _ _ _ _ (by simp), World.cell?_setCell_other _ _ _ _ (by simp)]; exact e3)
    have old : ∀ r, 4 ≤ r → w2.cell? ⟨b, off + j * 8 + r, none⟩ = wr.cell? ⟨b, off + j * 8 + r, none⟩ := fun r hr => by
      rw [c2.out, World.cell?_setCell_other _ _ _ _ (fun e => by injection e with _ e; omega), World.cell?_setCell_other _ _ _ _ (fun e => by injection e with _ e; omega), World.cell?_setCell_other _ _ _ _ (fun e => by injection e with _ e; omega), c1.out, World.cell?_setCell_other _ _ _ _ (fun e => by injection e with _ e; omega)]
    have g4 : w2.cell? ⟨b, off + j * 8 + 4, none⟩ = some (.string ts) := (old 4 (by omega)).trans D.out.2.1
    have g5 : w2.cell? ⟨b, off + j * 8 + 5, none⟩ = some (.slice tA kids.length tc) := (old 5 (by omega)).trans D.out.2.2.1
    have g6 : w2.cell? ⟨b, off + j * 8 + 6, none⟩ = some (.slice bA body.length bc) := (old 6 (by omega)).trans D.out.2.2.2.1
    have g7 : w2.cell? ⟨b, off + j * 8 + 7, none⟩ = some (.slice eA els.length ec) := (old 7 (by omega)).trans D.out.2.2.2.2
    have HO2 : Hid (∀ o, o < off + j * 8 ∨ off + j * 8 + 8 ≤ o → w2.cell? ⟨b, o, none⟩ = wr.cell? ⟨b, o, none⟩) := Lib.hid fun o ho => by
      rw [c2.out, World.cell?_setCell_other _ _ _ _ (fun e => by injection e with _ e; omega), World.cell?_setCell_other _ _ _ _ (fun e => by injection e with _ e; omega), World.cell?_setCell_other _ _ _ _ (fun e => by injection e with _ e; omega), c1.out, World.cell?_setCell_other _ _ _ _ (fun e => by injection e with _ e; omega)]
    have f4 := plain_free P2.out (off + j * 8 + 4)
    have V := Lib.hid (And.intro v0 (And.intro v1 (And.intro v2 v3)))
    have K2 : Hid (Keep (fun y => ¬ F y) wr (w2.setCell ⟨b, off + j * 8 + 4, none⟩ (.string (markT (K + 4))))) := by
      have q0 : Keep (fun y => ¬ F y) wr (wr.setCell ⟨b, off + j * 8, none⟩ (.int .i64 (K : Int))) := (Keep.refl _ _).setCell (p := ⟨b, off + j * 8, none⟩) (fun h => h HFB.out) _
      have q1 := (((q0.trans (Keep.of_below (S := fun y => ¬ F y) B1.out) (fun _ _ h => h)).setCell (p := ⟨b, off + j * 8 + 1, none⟩) (fun h => h HFB.out) (.string (markT (K + 1)))).setCell (p := ⟨b, off + j * 8 + 2, none⟩) (fun h => h HFB.out) (.int .i64 ((K : Int) + 1 + 1))).setCell (p := ⟨b, off + j * 8 + 2 + 1, none⟩) (fun h => h HFB.out) (.int .i64 ((K : Int) + 1 + 1 + 1))
      exact Lib.hid ((q1.trans (Keep.of_below (S := fun y => ¬ F y) B2.out) (fun _ _ h => h)).setCell (p := ⟨b, off + j * 8 + 4, none⟩) (fun h => h HFB.out) _)
    have nb : Hid (∀ y, G y → ¬ F y ∨ y ≠ b) := Lib.hid fun y hy => .inr (HGF.out y hy).2
    have hTb : ∀ y, T y → y ≠ b := fun y hy => (HGF.out y (SS.out.1 y hy)).2
    have hBb : ∀ y, B y → y ≠ b := fun y hy => (HGF.out y (SS.out.2.1 y hy)).2
    have hEb : ∀ y, E y → y ≠ b := fun y hy => (HGF.out y (SS.out.2.2 y hy)).2
    have KT := Lib.hid hTb
    have KB := Lib.hid hBb
    have KE := Lib.hid hEb
    have keep3 : Hid (∀ y, G y → (w2.setCell ⟨b, off + j * 8 + 4, none⟩ (.string (markT (K + 4)))).heap[y]? = wr.heap[y]?) := Lib.hid fun y hy => by
      rw [Below.heap_setCell _ _ _ _ (HGF.out y hy).2]
      exact y2.out y (HFW.out y (HGF.out y hy).1) (HGF.out y hy).2
    have hszG : Hid (∀ y, G y → y < (w2.setCell ⟨b, off + j * 8 + 4, none⟩ (.string (markT (K + 4)))).heap.size) := Lib.hid fun y hy => by have := HFW.out y (HGF.out y hy).1; simp; omega
    have R3 := Lib.hid (HK'.out.keep fun y hy => keep3.out y (SS.out.1 y hy))
    have u6 : (w2.setCell ⟨b, off + j * 8 + 4, none⟩ (.string (markT (K + 4)))).cell? ⟨b, off + j * 8 + 6, none⟩ = some (.slice bA body.length bc) := by rw [World.cell?_setCell_other _ _ _ _ (by simp)]; exact g6
    have u7 : (w2.setCell ⟨b, off + j * 8 + 4, none⟩ (.string (markT (K + 4)))).cell? ⟨b, off + j * 8 + 7, none⟩ = some (.slice eA els.length ec) := by rw [World.cell?_setCell_other _ _ _ _ (by simp)]; exact g7
    have GG := Lib.hid (And.intro g4 g5)
    clear b2 e1 e2 e3 f1 f2 f3 v0 v1 v2 v3 old hTb hBb hEb nb
    go_wp2_with fail
    generalize hW3 : w2.setCell ⟨b, off + j * 8 + 4, none⟩ (.string (markT (K + 4))) = W3 at *
    have HW3 := Lib.hid hW3
    clear hW3
    have w3b : Hid (∀ o, o ≠ off + j * 8 + 4 → W3.cell? ⟨b, o, none⟩ = w2.cell? ⟨b, o, none⟩) := Lib.hid fun o ho => by rw [← HW3.out, World.cell?_setCell_other _ _ _ _ (fun e => by injection e with _ e; exact ho e.symm)]
    have w3c : Hid (W3.cell? ⟨b, off + j * 8 + 4, none⟩ = some (.string (markT (K + 4)))) := Lib.hid (by rw [← HW3.out]; exact World.cell?_setCell_same _ _ _ GG.out.1)
    have P3 : Hid (∃ cur e, W3.heap[b]? = some (.cells cur e (0, 0))) := Lib.hid (by rw [← HW3.out]; exact plain_set P2.out b (off + j * 8 + 4) _)
    have hlb3 : b < W3.heap.size := cell_lt u6
    refine (laws_markTermS kids (K + 5) tA tc W3 T R3.out (fun y hy => hszG.out y (SS.out.1 y hy)) hl' hc' (by omega) (by omega)).mono ?_
    rintro e w4 ⟨rfl, r4, k4⟩
    have K4 := Lib.hid k4
    have b4 : Hid (∀ o, w4.cell? ⟨b, o, none⟩ = W3.cell? ⟨b, o, none⟩) := Lib.hid fun o => k4.cell (p := ⟨b, o, none⟩) hlb3 (fun h => KT.out b h rfl)
    have t6 : w4.cell? ⟨b, off + j * 8 + 6, none⟩ = some (.slice bA body.length bc) := (b4.out _).trans u6
    have t7 : w4.cell? ⟨b, off + j * 8 + 7, none⟩ = some (.slice eA els.length ec) := (b4.out _).trans u7
    have R4 := Lib.hid r4
    have hz4 := k4.size
    have RB4 : Hid (StRowO w4 B bA body) := Lib.hid ((HB'.out.keep fun y hy => keep3.out y (SS.out.2.1 y hy)).keep fun y hy => k4.block y (hszG.out y (SS.out.2.1 y hy)) (fun h => DD.out.1 y h hy))
    have RE4 : Hid (StRowO w4 E eA els) := Lib.hid ((HE'.out.keep fun y hy => keep3.out y (SS.out.2.2 y hy)).keep fun y hy => k4.block y (hszG.out y (SS.out.2.2 y hy)) (fun h => DD.out.2.1 y h hy))
    clear r4 k4 u6 u7
    go_wp2_with fail
    refine (VB.out (K + 5 + 3 * nodess kids) bA bc w4 B RB4.out (fun y hy => by have := hszG.out y (SS.out.2.1 y hy); omega) hb2 hb3 (by omega) (by omega)).mono ?_
    rintro e w5 ⟨rfl, r5, k5⟩
    have K5 := Lib.hid k5
    have hlb4 : b < w4.heap.size := by omega
    have b5 : Hid (∀ o, w5.cell? ⟨b, o, none⟩ = w4.cell? ⟨b, o, none⟩) := Lib.hid fun o => k5.cell (p := ⟨b, o, none⟩) hlb4 (fun h => KB.out b h rfl)
    have s7 : w5.cell? ⟨b, off + j * 8 + 7, none⟩ = some (.slice eA els.length ec) := (b5.out _).trans t7
    have R5 := Lib.hid r5
    have hz5 := k5.size
    have RT5 : Hid (TmRowO w5 T tA (mkTs (K + 5) kids)) := Lib.hid (R4.out.keep fun y hy => k5.block y (by have := hszG.out y (SS.out.1 y hy); omega) (fun h => DD.out.1 y hy h))
    have RE5 : Hid (StRowO w5 E eA els) := Lib.hid (RE4.out.keep fun y hy => k5.block y (by have := hszG.out y (SS.out.2.2 y hy); omega) (fun h => DD.out.2.2 y h hy))
    clear r5 k5 t6 t7
    go_wp2_with fail
    refine (VE.out (K + 5 + 3 * nodess kids + smarkss body) eA ec w5 E RE5.out (fun y hy => by have := hszG.out y (SS.out.2.2 y hy); omega) he2 he3 (by omega) (by omega)).mono ?_
    rintro e w6 ⟨rfl, r6, k6⟩
    have hlb5 : b < w5.heap.size := by omega
    have b6 : ∀ o, w6.cell? ⟨b, o, none⟩ = w5.cell? ⟨b, o, none⟩ := fun o => k6.cell (p := ⟨b, o, none⟩) hlb5 (fun h => KE.out b h rfl)
    have RT6 : TmRowO w6 T tA (mkTs (K + 5) kids) := RT5.out.keep fun y hy => k6.block y (by have := hszG.out y (SS.out.1 y hy); omega) (fun h => DD.out.2.1 y hy h)
    have RB6 : StRowO w6 B bA (mkGs (K + 5 + 3 * nodess kids) body) := R5.out.keep fun y hy => k6.block y (by have := hszG.out y (SS.out.2.1 y hy); omega) (fun h => DD.out.2.2 y hy h)
    have all6 : ∀ o, w6.cell? ⟨b, o, none⟩ = W3.cell? ⟨b, o, none⟩ := fun o => by rw [b6, b5.out, b4.out]
    have blk6 : w6.heap[b]? = W3.heap[b]? := by rw [k6.block b hlb5 (fun h => KE.out b h rfl), K5.out.block b hlb4 (fun h => KB.out b h rfl), K4.out.block b hlb3 (fun h => KT.out b h rfl)]
    have RN : Hid (StRowO w6 F (some ⟨b, off, none⟩) (mixGt k l (j + 1))) := by
      rw [← mixGt_set k l hlt]
      refine Lib.hid (HBACK.out w6 (V8.cells ⟨(K : Int), markT (K + 1), (K : Int) + 1 + 1, (K : Int) + 1 + 1 + 1, markT (K + 4), tA, kids.length, tc, bA, body.length, bc, eA, els.length, ec⟩) _ rfl ?_ ?_ ?_ ?_ ?_)
      · obtain ⟨cur, ty, hb⟩ := P3.out
        exact ⟨cur, ty, blk6.trans hb⟩
      · intro r u hu
        rw [all6]
        match r, hu with
        | 0, hu => injection hu with hu; subst hu; rw [w3b.out _ (by omega)]; exact V.out.1
        | 1, hu => injection hu with hu; subst hu; rw [w3b.out _ (by omega)]; exact V.out.2.1
        | 2, hu => injection hu with hu; subst hu; rw [w3b.out _ (by omega)]; exact V.out.2.2.1
        | 3, hu => injection hu with hu; subst hu; rw [w3b.out _ (by omega)]; exact V.out.2.2.2
        | 4, hu => injection hu with hu; subst hu; exact w3c.out
        | 5, hu => injection hu with hu; subst hu; rw [w3b.out _ (by omega)]; exact GG.out.2
        | 6, hu => injection hu with hu; subst hu; rw [w3b.out _ (by omega)]; exact g6
        | 7, hu => injection hu with hu; subst hu; rw [w3b.out _ (by omega)]; exact g7
        | r + 8, hu => simp [V8.cells] at hu
      · intro o ho
        rw [all6, w3b.out _ (by omega)]
        exact HO2.out o ho
      · intro y hy hne hG
        have hyl := HFW.out y hy
        have hz3 : W3.heap.size = w2.heap.size := by rw [← HW3.out]; simp
        rw [k6.block y (by omega) (fun h => hG (SS.out.2.2 y h)), K5.out.block y (by omega) (fun h => hG (SS.out.2.1 y h)), K4.out.block y (by omega) (fun h => hG (SS.out.1 y h)), ← HW3.out, Below.heap_setCell _ _ _ _ hne]
        exact y2.out y hyl hne
      · rw [HK.out, HQ.out, mkG_mk]
        have ct : TmO w6 T [.int .i64 ((K : Int) + 1 + 1), .int .i64 ((K : Int) + 1 + 1 + 1), .string (markT (K + 4)), .slice tA kids.length tc] (.mk ((K + 2 : Nat) : Int) ((K + 3 : Nat) : Int) (markT (K + 4)) (mkTs (K + 5) kids)) := by
          have := TmO.mk' (F := T) (w := w6) (k := ((K + 2 : Nat) : Int)) (n := ((K + 3 : Nat) : Int)) (s := markT (K + 4)) (A := tA) (c := tc) (kids := mkTs (K + 5) kids) (i64_nat (by omega)) (i64_nat (by omega)) (markT_le (by omega)) (by rw [mkTs_length]; exact hl') hc' RT6
          rw [mkTs_length] at this
          rw [show ((K : Int) + 1 + 1) = ((K + 2 : Nat) : Int) from by omega, show (((K + 2 : Nat) : Int) + 1) = ((K + 3 : Nat) : Int) from by omega]
          exact this
        exact ⟨_, rfl, StO.mk' (F := G) (T := T) (B := B) (E := E) (x := ⟨(K : Int), markT (K + 1), (K : Int) + 1 + 1, (K : Int) + 1 + 1 + 1, markT (K + 4), tA, kids.length, tc, bA, body.length, bc, eA, els.length, ec⟩) (i64_nat (by omega)) (markT_le (by omega)) ct (by simp [mkGs_length]) (by rw [mkGs_length]; exact hb2) hb3 RB6 (by simp [mkGs_length]) (by rw [mkGs_length]; exact he2) he3 r6 SS.out.1 SS.out.2.1 SS.out.2.2 DD.out.1 DD.out.2.1 DD.out.2.2⟩
    have KN : Hid (Keep (fun b => ¬ F b) w w6) := by
      have q0 := K2.out
      have q1 := q0.trans K4.out (fun y _ h hg => h (HGF.out y (SS.out.1 y hg)).1)
      have q2 := q1.trans K5.out (fun y _ h hg => h (HGF.out y (SS.out.2.1 y hg)).1)
      have q3 := q2.trans k6 (fun y _ h hg => h (HGF.out y (SS.out.2.2 y hg)).1)
      exact Lib.hid (KP.out.trans q3 (fun _ _ h => h))
    clear k6 r6 b6 RT6 RB6 all6 blk6 s7 g6 g7
    go_wp2_with fail
    go_roundw
    case rel => exact ⟨j + 1, by omega, by go_num, by rw [HN.out]; exact congrArg (Value.int .i64) (by have := HK.out; omega), Lib.hid ⟨RN.out, KN.out⟩⟩
    case measure => simp [intOf]; omega
theorem laws_markStmtS (l : List St) : MgC l := by
  induction hN : snodess l using Nat.strongRecOn generalizing l with
  | ind N ih =>
    refine laws_markStmtS_at l fun g hg k s t body els e => ?_
    have := snodess_le hg
    have h2 : snodes g = 1 + snodess body + snodess els := by rw [e, snodes]
    exact ⟨ih _ (by omega) body rfl, ih _ (by omega) els rfl⟩
end Go.Proofs.Ytadcebdhgocmhaa
