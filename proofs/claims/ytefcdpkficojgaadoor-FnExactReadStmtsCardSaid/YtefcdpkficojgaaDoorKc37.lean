/- Several texts in one: TermMark. -/
import Derived.Test.YtefcdpkficojgaaDoorKc17
namespace Go.Proofs.YtefcdpkficojgaaDoor
open Go.RowKit
set_option linter.unusedVariables false


mutual
/-- a term of the same form whose cells hold the marks from k on -/
def mkT (k : Nat) : Tm → Tm
  | .mk _ _ _ kids => .mk (k : Int) ((k + 1 : Nat) : Int) (markT (k + 2)) (mkTs (k + 3) kids)
def mkTs (k : Nat) : List Tm → List Tm
  | [] => []
  | t :: r => mkT k t :: mkTs (k + 3 * nodes t) r
end
theorem mkTs_length (k : Nat) (l : List Tm) : (mkTs k l).length = l.length := by
  induction l generalizing k with
  | nil => simp [mkTs]
  | cons t r ih => simp [mkTs, ih]
theorem nodess_append (l r : List Tm) : nodess (l ++ r) = nodess l + nodess r := by
  induction l with
  | nil => simp [nodess]
  | cons y t ih => rw [List.cons_append, nodess, nodess, ih]; omega
theorem mkTs_append (k : Nat) (l r : List Tm) : mkTs k (l ++ r) = mkTs k l ++ mkTs (k + 3 * nodess l) r := by
  induction l generalizing k with
  | nil => simp [mkTs, nodess]
  | cons y t ih => rw [List.cons_append, mkTs, mkTs, ih, nodess, List.cons_append]; congr 3; omega
theorem nodess_take (l : List Tm) (i : Nat) (h : i < l.length) : nodess (l.take (i + 1)) = nodess (l.take i) + nodes l[i] := by
  have e : l.take (i + 1) = l.take i ++ [l[i]] := List.take_succ_eq_append_getElem h
  rw [e, nodess_append]; simp [nodess]
theorem nodess_take_le (l : List Tm) (i : Nat) : nodess (l.take i) ≤ nodess l := by
  have e : nodess l = nodess (l.take i) + nodess (l.drop i) := by rw [← nodess_append, List.take_append_drop]
  omega
/-- the first i of them marked -/
def mixT (k : Nat) (l : List Tm) (i : Nat) : List Tm := mkTs k (l.take i) ++ l.drop i
theorem mixT_zero (k : Nat) (l : List Tm) : mixT k l 0 = l := by simp [mixT, mkTs]
theorem mixT_all (k : Nat) (l : List Tm) {i : Nat} (h : l.length ≤ i) : mixT k l i = mkTs k l := by simp [mixT, List.take_of_length_le h, List.drop_of_length_le h]
theorem mixT_length (k : Nat) (l : List Tm) {i : Nat} (h : i ≤ l.length) : (mixT k l i).length = l.length := by simp [mixT, mkTs_length]; omega
theorem mixT_get (k : Nat) (l : List Tm) {i : Nat} (h : i < l.length) (h' : i < (mixT k l i).length) : (mixT k l i)[i] = l[i] := by
  have hl : (mkTs k (l.take i)).length = i := by rw [mkTs_length, List.length_take]; omega
  have e : (mixT k l i)[i]? = some l[i] := by unfold mixT; rw [List.getElem?_append_right (by omega), hl, Nat.sub_self, List.getElem?_drop]; simp [h]
  rw [List.getElem?_eq_getElem h'] at e
  injection e
theorem mixT_set (k : Nat) (l : List Tm) {i : Nat} (h : i < l.length) : (mixT k l i).set i (mkT (k + 3 * nodess (l.take i)) l[i]) = mixT k l (i + 1) := by
  have hl : (mkTs k (l.take i)).length = i := by rw [mkTs_length, List.length_take]; omega
  have e : l.take (i + 1) = l.take i ++ [l[i]] := List.take_succ_eq_append_getElem h
  unfold mixT
  rw [e, mkTs_append, List.set_append_right _ _ (by omega), hl, Nat.sub_self, List.drop_eq_getElem_cons h, List.set_cons_zero, List.append_assoc]
  simp [mkTs]
theorem TmO.keepP : ∀ w w' G cells x, TmO w G cells x → (∀ b, G b → w'.heap[b]? = w.heap[b]?) → TmO w' G cells x := fun _ _ _ _ _ h hk => h.keep hk
theorem markT_size (k : Nat) : (markT k).size = 1 + (decL k).length := by simp [markT, ByteArray.size]; omega
theorem decL_len (k : Nat) : (decL k).length ≤ k := by
  induction k using Nat.strongRecOn with
  | ind k ih =>
    rcases Nat.eq_zero_or_pos k with rfl | h
    · rw [decL_zero]; simp
    · rw [decL_pos h, List.length_append]
      have := ih (k / 10) (by omega)
      simp
      omega
theorem markT_le {k : Nat} (h : k ≤ 100000000) : (markT k).size ≤ maxLen := by
  rw [markT_size]; have := decL_len k; unfold maxLen; omega
theorem i64_nat {k : Nat} (h : k ≤ 100000000) : i64in (k : Int) := by unfold i64in; omega
theorem mkT_mk (k : Nat) (a b : Int) (s : ByteArray) (kids : List Tm) : mkT k (.mk a b s kids) = .mk (k : Int) ((k + 1 : Nat) : Int) (markT (k + 2)) (mkTs (k + 3) kids) := by rw [mkT]
abbrev MkC (ts : List Tm) : Prop := ∀ (k : Nat) (A : Option Addr) (c : Nat) (w : World) (F : Nat → Prop), TmRowO w F A ts → (∀ b, F b → b < w.heap.size) → ts.length ≤ c → c ≤ maxLen → 0 < k → k + 3 * nodess ts ≤ 100000000 →
  Calls Tryd.prog 61 #[.slice A ts.length c, .int .i64 (k : Int)] w fun e w' => e = .returned (.int .i64 ((k + 3 * nodess ts : Nat) : Int)) ∧ TmRowO w' F A (mkTs k ts) ∧ Keep (fun b => ¬ F b) w w'
set_option maxHeartbeats 1000000 in
set_option maxRecDepth 100000 in
theorem laws_markTermS_at (ts : List Tm) (ih : ∀ t ∈ ts, ∀ k n s kids, t = .mk k n s kids → MkC kids) : MkC ts := by
  intro k A c w F row hF hl hc h0 h1
  unfold maxLen at hc
  have IH := Lib.hid ih
  have RW := Lib.hid row
  have HF := Lib.hid hF
  clear ih row hF
  go_enter Tryd.func61, Tryd.ntmps61
  go_wp2_with fail
  go_loopw [1, 5] (fun kk i wr => ∃ j : Nat, j ≤ ts.length ∧ i = .int .i64 j ∧ kk = .int .i64 ((k + 3 * nodess (ts.take j) : Nat) : Int) ∧ Hid (TmRowO wr F A (mixT k ts j) ∧ Keep (fun b => ¬ F b) w wr)) (fun _ i _ => ts.length - (intOf i).toNat)
  case atStart => exact ⟨0, Nat.zero_le _, rfl, by simp [nodess], Lib.hid ⟨by rw [mixT_zero]; exact RW.out, Keep.refl _ _⟩⟩
  case round =>
    obtain ⟨j, hj, rfl, rfl, HR⟩ := hrel
    by_cases hlt : j < ts.length
    · obtain ⟨hrow, hkeep⟩ := HR.out
      have hlm := mixT_length k ts hj
      have hjm : j < (mixT k ts j).length := by omega
      obtain ⟨b, off, G, cells, rfl, hcl, hcell, hP, hFb, hpl, hGF, hback⟩ := RowOf.focus (P := TmO) TmO.keepP hrow hjm
      rw [mixT_get k ts hlt hjm] at hP
      obtain ⟨kd, nn, s, A', m, c', rfl⟩ := hP.form
      obtain ⟨kids, heq, rfl, hl', hc', _, _, hs', hrow'⟩ := hP.inv
      have d0 := hcell 0 _ rfl
      have d1 := hcell 1 _ rfl
      have d2 := hcell 2 _ rfl
      have d3 := hcell 3 _ rfl
      simp only [Nat.add_zero] at d0
      have hlb := cell_lt d0
      have f0 := plain_free hpl (off + j * 4)
      have f1 := plain_free hpl (off + j * 4 + 1)
      have f2 := plain_free hpl (off + j * 4 + 2)
      have hnt := nodess_take ts j hlt
      have hnl := nodess_take_le ts (j + 1)
      have hnk : nodes ts[j] = 1 + nodess kids := by rw [heq, nodes]
      have VK := Lib.hid (IH.out ts[j] (List.getElem_mem hlt) _ _ _ kids heq)
      have HQ := Lib.hid heq
      have KP := Lib.hid hkeep
      have HPL := Lib.hid hpl
      have HBACK := Lib.hid hback
      have HGF := Lib.hid hGF
      have HR' := Lib.hid hrow'
      have HFW : Hid (∀ y, F y → y < wr.heap.size) := Lib.hid fun y hy => Nat.lt_of_lt_of_le (HF.out y hy) hkeep.size
      have HFB := Lib.hid hFb
      have HN : Hid (nodess (ts.take (j + 1)) = nodess (ts.take j) + (1 + nodess kids)) := Lib.hid (by omega)
      have hbd : k + 3 * nodess (ts.take j) + 3 + 3 * nodess kids ≤ 100000000 := by omega
      have h0k : (0 : Int) ≤ (j : Int) := by omega
      generalize hK : k + 3 * nodess (ts.take j) = K at *
      have HK := Lib.hid hK
      have hK0 : 0 < K := by omega
      clear hK hrow hkeep hback hGF hrow' hcell hcl hP heq hnt hnl hnk hlm hpl hFb HR
      go_wp2_with fail
      refine (laws_markText (K + 2) _ (by omega) (by omega)).mono ?_
      rintro e w1 ⟨rfl, b1⟩
      have B1 := Lib.hid b1
      obtain ⟨hcell, hfree⟩ := old_cells b1
      simp only [World.size_setCell] at hcell hfree
      have e2 : w1.cell? ⟨b, off + j * 4 + 2, none⟩ = some (.string s) := by rw [hcell _ _ hlb, World.cell?_setCell_other _ _ _ _ (by simp), World.cell?_setCell_other _ _ _ _ (by simp)]; exact d2
      have e3 : w1.cell? ⟨b, off + j * 4 + 3, none⟩ = some (.slice A' kids.length c') := by rw [hcell _ _ hlb, World.cell?_setCell_other _ _ _ _ (by simp), World.cell?_setCell_other _ _ _ _ (by simp)]; exact d3
      have hp1 := plain_below (plain_set (plain_set HPL.out b (off + j * 4) (.int .i64 (K : Int))) b (off + j * 4 + 1) (.int .i64 ((K : Int) + 1))) B1.out
      have g2 := plain_free hp1 (off + j * 4 + 2)
      have HP1 := Lib.hid hp1
      have hz1 := b1.size
      simp only [World.size_setCell] at hz1
      have v0 : w1.cell? ⟨b, off + j * 4, none⟩ = some (.int .i64 (K : Int)) := by rw [hcell _ _ hlb, World.cell?_setCell_other _ _ _ _ (by simp)]; exact World.cell?_setCell_same _ _ _ d0
      have v1 : w1.cell? ⟨b, off + j * 4 + 1, none⟩ = some (.int .i64 ((K : Int) + 1)) := by rw [hcell _ _ hlb]; exact World.cell?_setCell_same _ _ _ (by rw [World.cell?_setCell_other _ _ _ _ (by simp)]; exact d1)
      have HO : Hid (∀ o, o < off + j * 4 ∨ off + j * 4 + 4 ≤ o → w1.cell? ⟨b, o, none⟩ = wr.cell? ⟨b, o, none⟩) := Lib.hid fun o ho => by
        rw [hcell _ _ hlb, World.cell?_setCell_other _ _ _ _ (fun e => by injection e with _ e; omega), World.cell?_setCell_other _ _ _ _ (fun e => by injection e with _ e; omega)]
      have HY : Hid (∀ y, y < wr.heap.size → y ≠ b → w1.heap[y]? = wr.heap[y]?) := Lib.hid fun y hy hne => by
        rw [B1.out.block y (by simpa using hy), Below.heap_setCell _ _ _ _ hne, Below.heap_setCell _ _ _ _ hne]
      have V := Lib.hid (And.intro v0 v1)
      have E := Lib.hid (And.intro e2 e3)
      have R2 : Hid (TmRowO (w1.setCell ⟨b, off + j * 4 + 2, none⟩ (.string (markT (K + 2)))) G A' kids) := Lib.hid (TmRowO.set (p := ⟨b, off + j * 4 + 2, none⟩) (HR'.out.keep fun y hy => HY.out y (HFW.out y (HGF.out y hy).1) (HGF.out y hy).2) (fun h => (HGF.out b h).2 rfl) _)
      clear b1 hcell hfree v0 v1 hp1 d0 d1 d2 d3 f0 f1 f2
      go_wp2_with fail
      refine (VK.out (K + 3) A' c' _ G R2.out (fun y hy => by have := HFW.out y (HGF.out y hy).1; simp; omega) hl' hc' (by omega) (by omega)).mono ?_
      rintro e w2 ⟨rfl, r2, k2⟩
      have hGb : ¬ G b := fun h => (HGF.out b h).2 rfl
      have hlb1 : b < w1.heap.size := by omega
      have blk : w2.heap[b]? = (w1.setCell ⟨b, off + j * 4 + 2, none⟩ (.string (markT (K + 2)))).heap[b]? := k2.block b (by simpa using hlb1) hGb
      have hcb : ∀ o, w2.cell? ⟨b, o, none⟩ = (w1.setCell ⟨b, off + j * 4 + 2, none⟩ (.string (markT (K + 2)))).cell? ⟨b, o, none⟩ := fun o => World.cell?_of_block (a := ⟨b, o, none⟩) blk
      have RN : Hid (TmRowO w2 F (some ⟨b, off, none⟩) (mixT k ts (j + 1))) := by
        rw [← mixT_set k ts hlt]
        refine Lib.hid (HBACK.out w2 [.int .i64 (K : Int), .int .i64 ((K : Int) + 1), .string (markT (K + 2)), .slice A' kids.length c'] _ rfl ?_ ?_ ?_ ?_ ?_)
        · obtain ⟨cur, ty, hb⟩ := plain_set HP1.out b (off + j * 4 + 2) (.string (markT (K + 2)))
          exact ⟨cur, ty, blk.trans hb⟩
        · intro r u hu
          rw [hcb]
          match r, hu with
          | 0, hu => injection hu with hu; subst hu; rw [Nat.add_zero, World.cell?_setCell_other _ _ _ _ (by simp)]; exact V.out.1
          | 1, hu => injection hu with hu; subst hu; rw [World.cell?_setCell_other _ _ _ _ (by simp)]; exact V.out.2
          | 2, hu => injection hu with hu; subst hu; exact World.cell?_setCell_same _ _ _ E.out.1
          | 3, hu => injection hu with hu; subst hu; rw [World.cell?_setCell_other _ _ _ _ (by simp)]; exact E.out.2
          | r + 4, hu => simp at hu
        · intro o ho
          rw [hcb, World.cell?_setCell_other _ _ _ _ (fun e => by injection e with _ e; omega)]
          exact HO.out o ho
        · intro y hy hne hG
          have hyl := HFW.out y hy
          rw [k2.block y (by simp; omega) hG, Below.heap_setCell _ _ _ _ hne]
          exact HY.out y hyl hne
        · rw [HK.out, HQ.out, mkT_mk]
          have := TmO.mk' (F := G) (w := w2) (k := (K : Int)) (n := ((K + 1 : Nat) : Int)) (s := markT (K + 2)) (A := A') (c := c') (kids := mkTs (K + 3) kids) (i64_nat (by omega)) (i64_nat (by omega)) (markT_le (by omega)) (by rw [mkTs_length]; exact hl') hc' r2
          rw [mkTs_length] at this
          exact this
      have KN : Hid (Keep (fun b => ¬ F b) w w2) := by
        have q0 : Keep (fun y => ¬ F y) wr ((wr.setCell ⟨b, off + j * 4, none⟩ (.int .i64 (K : Int))).setCell ⟨b, off + j * 4 + 1, none⟩ (.int .i64 ((K : Int) + 1))) := ((Keep.refl _ _).setCell (p := ⟨b, off + j * 4, none⟩) (fun h => h HFB.out) _).setCell (p := ⟨b, off + j * 4 + 1, none⟩) (fun h => h HFB.out) _
        have q1 := (q0.trans (Keep.of_below (S := fun y => ¬ F y) B1.out) (fun _ _ h => h)).setCell (p := ⟨b, off + j * 4 + 2, none⟩) (fun h => h HFB.out) (.string (markT (K + 2)))
        have q2 := q1.trans k2 (fun y _ h hg => h (HGF.out y hg).1)
        exact Lib.hid (KP.out.trans q2 (fun _ _ h => h))
      clear k2 r2 blk hcb
      go_wp2_with fail
      go_roundw
      case rel => exact ⟨j + 1, by omega, by go_num, by rw [HN.out]; exact congrArg (Value.int .i64) (by have := HK.out; omega), Lib.hid ⟨RN.out, KN.out⟩⟩
      case measure => simp [intOf]; omega
    · go_wp2_with fail
      go_ret
      obtain ⟨hrow, hkeep⟩ := HR.out
      rw [mixT_all k ts (by omega)] at hrow
      exact ⟨ret_int (by rw [List.take_of_length_le (by omega)]), hrow, hkeep⟩
theorem laws_markTermS (ts : List Tm) : MkC ts := by
  induction hN : nodess ts using Nat.strongRecOn generalizing ts with
  | ind N ih =>
    refine laws_markTermS_at ts fun t ht k n s kids e => ?_
    have := nodess_le ht
    have h2 : nodes t = 1 + nodess kids := by rw [e, nodes]
    exact ih _ (by omega) kids rfl
end Go.Proofs.YtefcdpkficojgaaDoor
