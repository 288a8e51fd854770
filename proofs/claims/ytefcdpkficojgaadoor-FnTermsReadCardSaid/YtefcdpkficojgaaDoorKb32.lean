/- Several texts in one: StWrite. -/
import Derived.Test.YtefcdpkficojgaaDoorKb24
import Derived.Test.YtefcdpkficojgaaDoorKb30
import Derived.Test.YtefcdpkficojgaaDoorShelf
import Derived.Test.YtefcdpkficojgaaDoorKb31
import Derived.Deep.CutRange
namespace Go.Proofs.YtefcdpkficojgaaDoor
open Go.RowKit
set_option linter.unusedVariables false


theorem repeat_blanks (n : Nat) : Lib.repeatL [32] n = blanksL n := by
  induction n with
  | zero => rfl
  | succ n ih => rw [Lib.repeatL, ih]; rfl
theorem impl_stmtWord (k : Int) (hk : k = 4 ∨ k = 5 ∨ k = 6 ∨ k = 7) (w : World) : Calls Tryd.prog 145 #[.int .i64 k] w fun e w' => e = .returned (.string (wdB k)) ∧ w = w' := by
  rcases hk with rfl | rfl | rfl | rfl
  all_goals
    go_enter Tryd.func145, Tryd.ntmps145
    go_wp2_with fail
    go_ret
    exact ⟨rfl, rfl⟩
theorem impl_stmtWordB (k : Int) (hk : k = 4 ∨ k = 5 ∨ k = 6 ∨ k = 7) (w : World) : Calls Tryd.prog 145 #[.int .i64 k] w fun e w' => e = .returned (.string (wdB k)) ∧ Below w.heap.size w w' :=
  (impl_stmtWord k hk w).mono fun _ _ ⟨h1, h2⟩ => ⟨h1, h2 ▸ Below.refl _ _⟩
abbrev WsC (l : List St) : Prop := ∀ (deep ah : Nat) (A : Option Addr) (c : Nat) (w0 w : World) (b : Nat) (acc : List UInt8), StRow AnyB w0 A l → l.length ≤ c → c ≤ maxLen → rightGs deep l = true → ah + deep ≤ 26 → BldB w0 w b acc → acc.length + 3000 * snodess l ≤ 50000000000 → TabW w0 →
  Calls Tryd.prog 69 #[.pointer (some ⟨b, 0, none⟩), .slice A l.length c, .int .i64 (ah : Int)] w fun e w' => e = .returned (.tuple #[]) ∧ BldB w0 w' b (acc ++ txtGs ah l) ∧ KeepW b w w'
set_option maxHeartbeats 6400000 in
set_option maxRecDepth 100000 in
theorem impl_writeStmts_at (l : List St) (ih : ∀ g ∈ l, ∀ t k s body els, g = .mk k s t body els → WsC body ∧ WsC els) : WsC l := by
  intro deep ah A c w0 w b acc row hl hc hrg hda bld hb tab
  have IH := Lib.hid ih
  have RW := Lib.hid row
  have BL := Lib.hid bld
  have HRL := Lib.hid hrg
  have TB := Lib.hid tab
  unfold maxLen at hc
  clear ih row bld hrg tab
  go_enter Tryd.func69, Tryd.ntmps69
  go_wp2_with fail
  refine (Tryd.strings_Repeat ⟨#[32]⟩ ah _ (by omega) (by simp only [ByteArray.size, List.size_toArray, List.length_cons, List.length_nil]; omega)).mono ?_
  rintro e w1 ⟨rfl, b1⟩
  obtain ⟨ahead, hah⟩ : ∃ s : ByteArray, ⟨(Lib.repeatL (⟨#[32]⟩ : ByteArray).data.toList ah).toArray⟩ = s := ⟨_, rfl⟩
  have HAH : Hid (ahead.data.toList = blanksL ah) := Lib.hid (by rw [← hah]; simp [repeat_blanks])
  have hasz : ahead.size ≤ ah := by rw [← size_list, HAH.out, blanksL_len]; omega
  have HCL : Hid ((ahead ++ ⟨#[125]⟩ : ByteArray).size ≤ 27) := Lib.hid (by rw [← size_list]; simp; omega)
  rw [hah]
  have BL1 := Lib.hid (BL.out.below b1)
  have KW1 := Lib.hid (KeepW.of_below' (b := b) b1)
  clear b1 hah
  go_wp2_with fail
  go_loopw [14] (fun iv wr => ∃ j : Nat, j ≤ l.length ∧ iv = .int .i64 (j : Int) ∧ Hid (BldB w0 wr b (acc ++ txtGs ah (l.take j)) ∧ KeepW b w wr)) (fun iv _ => l.length - (intOf iv).toNat)
  case atStart => exact ⟨0, Nat.zero_le _, rfl, Lib.hid ⟨by simpa [txtGs] using BL1.out, KW1.out⟩⟩
  case round =>
    obtain ⟨j, hj, rfl, HR⟩ := hrel
    obtain ⟨bl1, kw1⟩ := HR.out
    have B1 := Lib.hid bl1
    have K1 := Lib.hid kw1
    clear bl1 kw1 HR
    by_cases hlt : j < l.length
    case neg =>
      go_wp2_with fail
      refine bodyPost_end (results_none rfl _ _ _) rfl ?_
      have h1 := B1.out
      have h2 := K1.out
      rw [List.take_of_length_le (by omega)] at h1
      exact ⟨rfl, h1, h2⟩
    have hst := snodess_take l j hlt
    have hle := snodess_take_le l (j + 1)
    have htk : rightGs deep (l.take j) = true := by
      have e : rightGs deep l = (rightGs deep (l.take j) && rightGs deep (l.drop j)) := by rw [← rightGs_append, List.take_append_drop]
      have h := HRL.out
      rw [e, Bool.and_eq_true] at h
      exact h.1
    have hal := txtGs_len htk (ah := ah) hda
    obtain ⟨ACC, hACC⟩ : ∃ L, acc ++ txtGs ah (l.take j) = L := ⟨_, rfl⟩
    have hac : ACC.length ≤ acc.length + 3000 * snodess (l.take j) := by rw [← hACC, List.length_append]; omega
    have HACC := Lib.hid hACC
    rw [hACC] at B1
    clear hACC hal htk
    have HTK := Lib.hid (txtGs_take ah l j hlt)
    obtain ⟨rb', off, x, rfl, _, ⟨d0, d1, d2, d3, d4, d5, d6, d7⟩, hg⟩ := rd_stmt RW.out hlt
    obtain ⟨t, body, els, heq, _, _, ht, hb1, hb2, hb3, rb, he1, he2, he3, re⟩ := hg.inv
    have VB := Lib.hid (IH.out l[j] (List.getElem_mem hlt) t _ _ body els heq).1
    have VE := Lib.hid (IH.out l[j] (List.getElem_mem hlt) t _ _ body els heq).2
    have HEQ := Lib.hid heq
    have RB := Lib.hid rb
    have RE := Lib.hid re
    have HT := Lib.hid ht
    have hrj := rightGs_get HRL.out hlt
    rw [heq] at hrj
    have HRG := Lib.hid hrj
    have HSH := Lib.hid (right_shape hrj)
    obtain ⟨k, xs, tk, tn, ts, tA, tm, tc, bA, bm, bc, eA, em, ec⟩ := x
    simp only [V8.term] at hb1 he1 hb2 hb3 he2 he3 d0 d1 d2 d3 d4 d5 d6 d7 RB RE HEQ HT HRG HSH VB VE
    subst hb1 he1
    have hkk := shape_kind HSH.out
    have h0k : (0 : Int) ≤ (j : Int) := by omega
    have hown := B1.out.own
    replace d0 := cell_keep hown d0
    replace d1 := cell_keep hown d1
    replace d2 := cell_keep hown d2
    replace d3 := cell_keep hown d3
    replace d4 := cell_keep hown d4
    replace d5 := cell_keep hown d5
    replace d6 := cell_keep hown d6
    replace d7 := cell_keep hown d7
    have hsn1 : 1 ≤ snodes l[j] := by rw [HEQ.out, snodes]; omega
    clear heq hg rb re ht hown hrj
    go_wp2_with fail
    refine (bld_write b w0 _ ACC ahead (B1.out.below (Below.alloc (Below.refl _ _) (Nat.le_refl _) _)) (by omega)).mono ?_
    rintro e w2 ⟨rfl, b2, k2⟩
    have HB2 := Lib.hid b2
    have K2 := Lib.hid ((K1.out.trans' (KeepW.of_below' (Below.alloc (Below.refl _ _) (Nat.le_refl _) _))).trans' k2)
    have BX : BoxB (wr.alloc (.cells #[.int .i64 k, .string xs, .int .i64 tk, .int .i64 tn, .string ts, .slice tA tm tc, .slice bA body.length bc, .slice eA els.length ec] 104)) wr.heap.size [.int .i64 k, .string xs, .int .i64 tk, .int .i64 tn, .string ts, .slice tA tm tc, .slice bA body.length bc, .slice eA els.length ec] := BoxB.lit rfl
    have sn : Sane 5 (wr.alloc (.cells #[.int .i64 k, .string xs, .int .i64 tk, .int .i64 tn, .string ts, .slice tA tm tc, .slice bA body.length bc, .slice eA els.length ec] 104)) wr.heap.size := sane_new (by decide)
    have hgb : wr.heap.size ≠ b := by have := B1.out.lt; omega
    have y0 := KeepW.cellW k2 hgb sn (BX 0 _ rfl)
    have y1 := KeepW.cellW k2 hgb sn (BX 1 _ rfl)
    have y2 := KeepW.cellW k2 hgb sn (BX 2 _ rfl)
    have y3 := KeepW.cellW k2 hgb sn (BX 3 _ rfl)
    have y4 := KeepW.cellW k2 hgb sn (BX 4 _ rfl)
    have y5 := KeepW.cellW k2 hgb sn (BX 5 _ rfl)
    have y6 := KeepW.cellW k2 hgb sn (BX 6 _ rfl)
    have y7 := KeepW.cellW k2 hgb sn (BX 7 _ rfl)
    have SN := Lib.hid (KeepW.sane k2 hgb sn (by simp))
    have HGB := Lib.hid hgb
    obtain ⟨L2, hL2⟩ : ∃ L, ACC ++ blanksL ah = L := ⟨_, rfl⟩
    have hl2 : L2.length ≤ ACC.length + ah := by rw [← hL2, List.length_append, blanksL_len]; omega
    have HL2 := Lib.hid hL2
    have B2 : Hid (BldB w0 w2 b L2) := Lib.hid (by have := HB2.out; rwa [HAH.out, hL2] at this)
    clear hL2 b2 k2 BX sn d0 d1 d2 d3 d4 d5 d6 d7 hgb HB2
    generalize wr.heap.size = g at *
    by_cases e1 : k = 1
    · subst e1
      obtain ⟨hnm, hok, rfl, rfl⟩ := shape_1 HSH.out
      obtain ⟨X, hX⟩ : ∃ X : ByteArray, ⟨(txtR t).toArray⟩ = X := ⟨_, rfl⟩
      have HXL : Hid (X.data.toList = txtT t) := Lib.hid (by rw [← hX, txtR_yes hok])
      have hxl : X.size ≤ 1912 := by have h9 := txt_len 6 t hok; rw [← size_list, HXL.out]; omega
      have HTT : Hid (∀ W, Below w0.heap.size w0 W → Calls Tryd.prog 41 #[.agg #[.int .i64 tk, .int .i64 tn, .string ts, .slice tA tm tc]] W fun e w' => e = .returned (.string X) ∧ Below W.heap.size W w') := Lib.hid fun W hW => by rw [← hX]; exact impl_TermText t _ _ _ _ _ _ _ (HT.out.belowA hW) (TB.out.below hW)
      clear hX
      have hxs := name_len hnm
      rw [size_list] at hxs
      clear hnm hok
      have HSZ : Hid (((xs ++ ⟨#[32, 61, 32]⟩ ++ X ++ ⟨#[59]⟩) : ByteArray).size ≤ 2000) := Lib.hid (by rw [← size_list]; simp; omega)
      have hs1 : xs.size + 3 + X.size + 1 ≤ 2000 := by omega
      have hc1 : ¬ (9223372036854775807 < xs.size + 3) := by omega
      have hc2 : ¬ (9223372036854775807 < xs.size + 3 + X.size) := by omega
      have hc3 : ¬ (9223372036854775807 < xs.size + 3 + X.size + 1) := by omega
      go_upto_region 8 with fail
      have bl := B2.out
      have kp := Keep.refl (fun i => i ≠ b ∧ Sane 5 w2 i) w2
      have KS : Hid (∀ w', KeepW b w2 w' → KeepW b w2 w' ∧ w'.cell? ⟨g, 1, none⟩ = some (.string xs) ∧ w'.cell? ⟨g, 2, none⟩ = some (.int .i64 tk) ∧ w'.cell? ⟨g, 3, none⟩ = some (.int .i64 tn) ∧ w'.cell? ⟨g, 4, none⟩ = some (.string ts) ∧ w'.cell? ⟨g, 5, none⟩ = some (.slice tA tm tc)) := Lib.hid (fun w' hk => ⟨hk, KeepW.cellW hk HGB.out SN.out y1, KeepW.cellW hk HGB.out SN.out y2, KeepW.cellW hk HGB.out SN.out y3, KeepW.cellW hk HGB.out SN.out y4, KeepW.cellW hk HGB.out SN.out y5⟩)
      go_region_held3 (fun w' => KeepW b w2 w' ∧ w'.cell? ⟨g, 1, none⟩ = some (.string xs) ∧ w'.cell? ⟨g, 2, none⟩ = some (.int .i64 tk) ∧ w'.cell? ⟨g, 3, none⟩ = some (.int .i64 tn) ∧ w'.cell? ⟨g, 4, none⟩ = some (.string ts) ∧ w'.cell? ⟨g, 5, none⟩ = some (.slice tA tm tc))
        (first | exact KS.out _ (KeepW.trans' kp (KeepW.of_below' (by repeat' (first | exact Below.refl _ _ | exact Nat.le_refl _ | (refine Below.alloc ?_ ?_ _) | (refine Below.setCell ?_ ?_ _) | (refine Below.drew ?_) | (refine below_drewN ?_ _) | assumption | (simp; done) | (simp; omega))))) | fail)
        (first
          | (go_at_call 41; refine (HTT.out _ (below_then2 bl.own (by repeat' (first | exact Below.refl _ _ | exact Nat.le_refl _ | (refine Below.alloc ?_ ?_ _) | (refine Below.setCell ?_ ?_ _) | (refine Below.drew ?_) | (refine below_drewN ?_ _) | assumption | (simp; done) | (simp; omega))))).mono ?_; rintro e wY ⟨rfl, bY⟩; have kp := KeepW.trans' (KeepW.trans' kp (KeepW.of_below' (by repeat' (first | exact Below.refl _ _ | exact Nat.le_refl _ | (refine Below.alloc ?_ ?_ _) | (refine Below.setCell ?_ ?_ _) | (refine Below.drew ?_) | (refine below_drewN ?_ _) | assumption | (simp; done) | (simp; omega))))) (KeepW.of_below' bY); have bl := (bl.below (by repeat' (first | exact Below.refl _ _ | exact Nat.le_refl _ | (refine Below.alloc ?_ ?_ _) | (refine Below.setCell ?_ ?_ _) | (refine Below.drew ?_) | (refine below_drewN ?_ _) | assumption | (simp; done) | (simp; omega)))).below bY; clear bY)
          | (go_at_call 112; have le : L2.length + ((xs ++ ⟨#[32, 61, 32]⟩ ++ X ++ ⟨#[59]⟩) : ByteArray).size ≤ 100000000000 := (Nat.le_trans (Nat.add_le_add_left HSZ.out _) (by omega)); have t1 := bld_write b w0 _ L2 (xs ++ ⟨#[32, 61, 32]⟩ ++ X ++ ⟨#[59]⟩) bl le; refine t1.mono ?_; clear le t1; rintro e wY ⟨rfl, bZ, kZ⟩; have kp := KeepW.trans' (KeepW.trans' kp (KeepW.of_below' (by repeat' (first | exact Below.refl _ _ | exact Nat.le_refl _ | (refine Below.alloc ?_ ?_ _) | (refine Below.setCell ?_ ?_ _) | (refine Below.drew ?_) | (refine below_drewN ?_ _) | assumption | (simp; done) | (simp; omega))))) kZ; have bl := bZ; clear bZ kZ)
          | fail)
      all_goals
       obtain ⟨LX, hLX⟩ : ∃ L, L2 ++ ((xs ++ ⟨#[32, 61, 32]⟩ ++ X ++ ⟨#[59]⟩) : ByteArray).data.toList = L := ⟨_, rfl⟩
       have hlx : LX.length ≤ 56000000000 := by rw [← hLX]; (rw [List.length_append, size_list]; exact Nat.le_trans (Nat.add_le_add_left HSZ.out _) (by omega))
       have HLX := Lib.hid hLX
       rw [hLX] at bl
       clear hLX
       have BX := Lib.hid bl
       have KX := Lib.hid (K2.out.trans' kp)
       clear bl kp
       go_wp2_with fail
       refine (bld_write b w0 _ LX ⟨#[10]⟩ BX.out (by simp only [ByteArray.size, List.size_toArray, List.length_cons, List.length_nil]; omega)).mono ?_
       rintro e w8 ⟨rfl, b8, k8⟩
       have B8 : Hid (BldB w0 w8 b (acc ++ txtGs ah (l.take (j + 1)))) := Lib.hid (by
         rw [HTK.out, ← List.append_assoc, HACC.out, HEQ.out, txtG_1]
         have e : ACC ++ (blanksL ah ++ (xs.data.toList ++ [32, 61, 32]) ++ txtT t ++ [59] ++ [10]) = L2 ++ ((xs ++ ⟨#[32, 61, 32]⟩ ++ X ++ ⟨#[59]⟩) : ByteArray).data.toList ++ [10] := by rw [← HL2.out, ← HXL.out]; simp
         rw [e, HLX.out]
         exact b8)
       have K8 := Lib.hid (KX.out.trans' k8)
       clear b8 k8
       go_wp2_with fail
       go_roundw
       case rel => exact ⟨j + 1, by omega, by go_num, Lib.hid ⟨B8.out, K8.out⟩⟩
       case measure => simp [intOf]; omega
    by_cases e8 : k = 8
    · subst e8
      go_wp2_with fail
      refine (bld_write b w0 _ L2 ⟨#[115, 107, 105, 112, 59]⟩ B2.out (by simp only [ByteArray.size, List.size_toArray, List.length_cons, List.length_nil]; omega)).mono ?_
      rintro e w3 ⟨rfl, b3, k3⟩
      have bl : BldB w0 w3 b (L2 ++ [115, 107, 105, 112, 59]) := b3
      have kp := k3
      clear b3 k3
      obtain ⟨LX, hLX⟩ : ∃ L, L2 ++ [115, 107, 105, 112, 59] = L := ⟨_, rfl⟩
      have hlx : LX.length ≤ 56000000000 := by rw [← hLX]; ((try simp only [List.length_append, List.length_cons, List.length_nil]); omega)
      have HLX := Lib.hid hLX
      rw [hLX] at bl
      clear hLX
      have BX := Lib.hid bl
      have KX := Lib.hid (K2.out.trans' kp)
      clear bl kp
      go_wp2_with fail
      refine (bld_write b w0 _ LX ⟨#[10]⟩ BX.out (by simp only [ByteArray.size, List.size_toArray, List.length_cons, List.length_nil]; omega)).mono ?_
      rintro e w8 ⟨rfl, b8, k8⟩
      have B8 : Hid (BldB w0 w8 b (acc ++ txtGs ah (l.take (j + 1)))) := Lib.hid (by
        rw [HTK.out, ← List.append_assoc, HACC.out, HEQ.out, txtG_8]
        have e : ACC ++ (blanksL ah ++ [115, 107, 105, 112, 59] ++ [10]) = L2 ++ [115, 107, 105, 112, 59] ++ [10] := by rw [← HL2.out]; simp
        rw [e, HLX.out]
        exact b8)
      have K8 := Lib.hid (KX.out.trans' k8)
      clear b8 k8
      go_wp2_with fail
      go_roundw
      case rel => exact ⟨j + 1, by omega, by go_num, Lib.hid ⟨B8.out, K8.out⟩⟩
      case measure => simp [intOf]; omega
    by_cases e2 : k = 2
    · subst e2
      obtain ⟨hok, dp, rfl, hrb, hre⟩ := right_many (by omega) HRG.out
      obtain ⟨X, hX⟩ : ∃ X : ByteArray, ⟨(txtR t).toArray⟩ = X := ⟨_, rfl⟩
      have HXL : Hid (X.data.toList = txtT t) := Lib.hid (by rw [← hX, txtR_yes hok])
      have hxl : X.size ≤ 1912 := by have h9 := txt_len 6 t hok; rw [← size_list, HXL.out]; omega
      have HTT : Hid (∀ W, Below w0.heap.size w0 W → Calls Tryd.prog 41 #[.agg #[.int .i64 tk, .int .i64 tn, .string ts, .slice tA tm tc]] W fun e w' => e = .returned (.string X) ∧ Below W.heap.size W w') := Lib.hid fun W hW => by rw [← hX]; exact impl_TermText t _ _ _ _ _ _ _ (HT.out.belowA hW) (TB.out.below hW)
      clear hX
      have hbk := txtGs_len hrb (ah := ah + 1) (by omega)
      have hek := txtGs_len hre (ah := ah + 1) (by omega)
      have hsb : snodess body + snodess els + 1 ≤ snodes l[j] := by rw [HEQ.out, snodes]; omega
      have BB : Hid (∀ (w : World) (acc : List UInt8), BldB w0 w b acc → acc.length + 3000 * snodess body ≤ 50000000000 → Calls Tryd.prog 69 #[.pointer (some ⟨b, 0, none⟩), .slice bA body.length bc, .int .i64 ((ah : Int) + 1)] w fun e w' => e = .returned (.tuple #[]) ∧ BldB w0 w' b (acc ++ txtGs (ah + 1) body) ∧ KeepW b w w') := Lib.hid fun w acc o h => by
        have := VB.out dp (ah + 1) bA bc w0 w b acc RB.out hb2 hb3 hrb (by omega) o h TB.out
        rwa [show ((ah + 1 : Nat) : Int) = (ah : Int) + 1 from by omega] at this
      have BE : Hid (∀ (w : World) (acc : List UInt8), BldB w0 w b acc → acc.length + 3000 * snodess els ≤ 50000000000 → Calls Tryd.prog 69 #[.pointer (some ⟨b, 0, none⟩), .slice eA els.length ec, .int .i64 ((ah : Int) + 1)] w fun e w' => e = .returned (.tuple #[]) ∧ BldB w0 w' b (acc ++ txtGs (ah + 1) els) ∧ KeepW b w w') := Lib.hid fun w acc o h => by
        have := VE.out dp (ah + 1) eA ec w0 w b acc RE.out he2 he3 hre (by omega) o h TB.out
        rwa [show ((ah + 1 : Nat) : Int) = (ah : Int) + 1 from by omega] at this
      clear hok hrb hre
      have HSZ : Hid ((((⟨#[105, 102, 32]⟩ : ByteArray) ++ X ++ ⟨#[32, 123, 10]⟩) : ByteArray).size ≤ 2000) := Lib.hid (by rw [← size_list]; simp; omega)
      have hc1 : ¬ (9223372036854775807 < 3 + X.size) := by omega
      have hc2 : ¬ (9223372036854775807 < 3 + X.size + 3) := by omega
      go_wp2_with fail
      refine (HTT.out _ B2.out.own).mono ?_
      rintro e w3 ⟨rfl, b3⟩
      have B3 := Lib.hid (B2.out.below b3)
      have K3 := Lib.hid (KeepW.of_below' (b := b) b3)
      clear b3
      go_wp2_with fail
      have le : L2.length + (((⟨#[105, 102, 32]⟩ : ByteArray) ++ X ++ ⟨#[32, 123, 10]⟩) : ByteArray).size ≤ 100000000000 := Nat.le_trans (Nat.add_le_add_left HSZ.out _) (by omega)
      have t1 := bld_write b w0 _ L2 ((⟨#[105, 102, 32]⟩ : ByteArray) ++ X ++ ⟨#[32, 123, 10]⟩) B3.out le
      refine t1.mono ?_
      clear le t1
      rintro e w4 ⟨rfl, b4, k4⟩
      have K4 := Lib.hid (K3.out.trans' k4)
      have L4s : Hid ((L2 ++ (((⟨#[105, 102, 32]⟩ : ByteArray) ++ X ++ ⟨#[32, 123, 10]⟩) : ByteArray).data.toList).length ≤ L2.length + 2000) := Lib.hid (by rw [List.length_append, size_list]; exact Nat.add_le_add_left HSZ.out _)
      obtain ⟨L4, hL4⟩ : ∃ L, L2 ++ (((⟨#[105, 102, 32]⟩ : ByteArray) ++ X ++ ⟨#[32, 123, 10]⟩) : ByteArray).data.toList = L := ⟨_, rfl⟩
      rw [hL4] at b4 L4s
      have HL4 := Lib.hid hL4
      have hl4 := L4s.out
      have B4 := Lib.hid b4
      have z6 := KeepW.cellW K4.out HGB.out SN.out y6
      clear b4 k4 hL4 K3 B3
      go_wp2_with fail
      refine (BB.out _ _ B4.out (by omega)).mono ?_
      rintro e w5 ⟨rfl, b5, k5⟩
      have K5 := Lib.hid (K4.out.trans' k5)
      obtain ⟨L5, hL5⟩ : ∃ L, L4 ++ txtGs (ah + 1) body = L := ⟨_, rfl⟩
      have hl5 : L5.length ≤ L2.length + 2000 + 3000 * snodess body := by rw [← hL5, List.length_append]; omega
      rw [hL5] at b5
      have HL5 := Lib.hid hL5
      have B5 := Lib.hid b5
      clear b5 k5 hL5 z6
      go_wp2_with fail
      have le : L5.length + ((ahead ++ ⟨#[125]⟩) : ByteArray).size ≤ 100000000000 := Nat.le_trans (Nat.add_le_add_left HCL.out _) (by omega)
      have t1 := bld_write b w0 _ L5 (ahead ++ ⟨#[125]⟩) B5.out le
      refine t1.mono ?_
      clear le t1
      rintro e w6 ⟨rfl, b6, k6⟩
      have K6 := Lib.hid (K5.out.trans' k6)
      obtain ⟨L6, hL6⟩ : ∃ L, L5 ++ ((ahead ++ ⟨#[125]⟩) : ByteArray).data.toList = L := ⟨_, rfl⟩
      have hl6 : L6.length ≤ L2.length + 2030 + 3000 * snodess body := by rw [← hL6, List.length_append, size_list]; exact Nat.le_trans (Nat.add_le_add_left HCL.out _) (by omega)
      rw [hL6] at b6
      have HL6 := Lib.hid hL6
      have B6 := Lib.hid b6
      have z7 := KeepW.cellW K6.out HGB.out SN.out y7
      clear b6 k6 hL6
      cases hel : decide (0 < els.length) with
      | false =>
        have h0 : els = [] := List.eq_nil_of_length_eq_zero (by simpa using hel)
        have h0i : ¬ (0 : Int) < (els.length : Int) := by rw [h0]; decide
        have bl := B6.out
        have kp := K6.out
        obtain ⟨LX, hLX⟩ : ∃ L, L6 = L := ⟨_, rfl⟩
        have hlx : LX.length ≤ 56000000000 := by rw [← hLX]; ((try simp only [List.length_append, List.length_cons, List.length_nil]); omega)
        have HLX := Lib.hid hLX
        rw [hLX] at bl
        clear hLX
        have BX := Lib.hid bl
        have KX := Lib.hid (K2.out.trans' kp)
        clear bl kp
        go_wp2_with fail
        refine (bld_write b w0 _ LX ⟨#[10]⟩ BX.out (by simp only [ByteArray.size, List.size_toArray, List.length_cons, List.length_nil]; omega)).mono ?_
        rintro e w8 ⟨rfl, b8, k8⟩
        have B8 : Hid (BldB w0 w8 b (acc ++ txtGs ah (l.take (j + 1)))) := Lib.hid (by
          rw [HTK.out, ← List.append_assoc, HACC.out, HEQ.out, txtG_m (by omega), h0, elseL]
          have e : ACC ++ (blanksL ah ++ (wdL 2 ++ [32]) ++ txtT t ++ ([32, 123, 10] ++ txtGs (ah + 1) body ++ blanksL ah ++ [125]) ++ (if ([] : List St).length = 0 then [] else [32, 101, 108, 115, 101] ++ ([32, 123, 10] ++ txtGs (ah + 1) [] ++ blanksL ah ++ [125])) ++ [10]) = L6 ++ [10] := by rw [← HL6.out, ← HL5.out, ← HL4.out, ← HL2.out, ← HAH.out, ← HXL.out]; simp [wdL, wdB]
          rw [e, HLX.out]
          exact b8)
        have K8 := Lib.hid (KX.out.trans' k8)
        clear b8 k8
        go_wp2_with fail
        go_roundw
        case rel => exact ⟨j + 1, by omega, by go_num, Lib.hid ⟨B8.out, K8.out⟩⟩
        case measure => simp [intOf]; omega
      | true =>
        have h0 : 0 < els.length := by simpa using hel
        have h0i : (0 : Int) < (els.length : Int) := by omega
        go_wp2_with fail
        refine (bld_write b w0 _ L6 ⟨#[32, 101, 108, 115, 101, 32, 123, 10]⟩ B6.out (by simp only [ByteArray.size, List.size_toArray, List.length_cons, List.length_nil]; omega)).mono ?_
        rintro e w7 ⟨rfl, b7, k7⟩
        have K7 := Lib.hid (K6.out.trans' k7)
        obtain ⟨L7, hL7⟩ : ∃ L, L6 ++ (⟨#[32, 101, 108, 115, 101, 32, 123, 10]⟩ : ByteArray).data.toList = L := ⟨_, rfl⟩
        have hl7 : L7.length ≤ L2.length + 2040 + 3000 * snodess body := by rw [← hL7, List.length_append]; have h8 : (⟨#[32, 101, 108, 115, 101, 32, 123, 10]⟩ : ByteArray).data.toList.length = 8 := rfl; omega
        rw [hL7] at b7
        have HL7 := Lib.hid hL7
        have B7 := Lib.hid b7
        have u7 := KeepW.cellW K7.out HGB.out SN.out y7
        clear b7 k7 hL7 z7
        go_wp2_with fail
        refine (BE.out _ _ B7.out (by omega)).mono ?_
        rintro e w9 ⟨rfl, b9, k9⟩
        have K9 := Lib.hid (K7.out.trans' k9)
        obtain ⟨L9, hL9⟩ : ∃ L, L7 ++ txtGs (ah + 1) els = L := ⟨_, rfl⟩
        have hl9 : L9.length ≤ L2.length + 2040 + 3000 * snodess body + 3000 * snodess els := by rw [← hL9, List.length_append]; omega
        rw [hL9] at b9
        have HL9 := Lib.hid hL9
        have B9 := Lib.hid b9
        clear b9 k9 hL9 u7
        go_wp2_with fail
        have le : L9.length + ((ahead ++ ⟨#[125]⟩) : ByteArray).size ≤ 100000000000 := Nat.le_trans (Nat.add_le_add_left HCL.out _) (by omega)
        have t1 := bld_write b w0 _ L9 (ahead ++ ⟨#[125]⟩) B9.out le
        refine t1.mono ?_
        clear le t1
        rintro e w10 ⟨rfl, b10, k10⟩
        have bl := b10
        have kp := K9.out.trans' k10
        clear b10 k10
        obtain ⟨LX, hLX⟩ : ∃ L, L9 ++ ((ahead ++ ⟨#[125]⟩) : ByteArray).data.toList = L := ⟨_, rfl⟩
        have hlx : LX.length ≤ 56000000000 := by rw [← hLX]; (rw [List.length_append, size_list]; exact Nat.le_trans (Nat.add_le_add_left HCL.out _) (by omega))
        have HLX := Lib.hid hLX
        rw [hLX] at bl
        clear hLX
        have BX := Lib.hid bl
        have KX := Lib.hid (K2.out.trans' kp)
        clear bl kp
        go_wp2_with fail
        refine (bld_write b w0 _ LX ⟨#[10]⟩ BX.out (by simp only [ByteArray.size, List.size_toArray, List.length_cons, List.length_nil]; omega)).mono ?_
        rintro e w8 ⟨rfl, b8, k8⟩
        have B8 : Hid (BldB w0 w8 b (acc ++ txtGs ah (l.take (j + 1)))) := Lib.hid (by
          rw [HTK.out, ← List.append_assoc, HACC.out, HEQ.out, txtG_m (by omega), elseL, if_neg (show ¬ els.length = 0 by omega)]
          have e : ACC ++ (blanksL ah ++ (wdL 2 ++ [32]) ++ txtT t ++ ([32, 123, 10] ++ txtGs (ah + 1) body ++ blanksL ah ++ [125]) ++ ([32, 101, 108, 115, 101] ++ ([32, 123, 10] ++ txtGs (ah + 1) els ++ blanksL ah ++ [125])) ++ [10]) = L9 ++ ((ahead ++ ⟨#[125]⟩) : ByteArray).data.toList ++ [10] := by rw [← HL9.out, ← HL7.out, ← HL6.out, ← HL5.out, ← HL4.out, ← HL2.out, ← HAH.out, ← HXL.out]; simp [wdL, wdB]
          rw [e, HLX.out]
          exact b8)
        have K8 := Lib.hid (KX.out.trans' k8)
        clear b8 k8
        go_wp2_with fail
        go_roundw
        case rel => exact ⟨j + 1, by omega, by go_num, Lib.hid ⟨B8.out, K8.out⟩⟩
        case measure => simp [intOf]; omega
    by_cases e3 : k = 3
    · subst e3
      obtain ⟨hok, dp, rfl, hrb, hre⟩ := right_many (by omega) HRG.out
      obtain ⟨X, hX⟩ : ∃ X : ByteArray, ⟨(txtR t).toArray⟩ = X := ⟨_, rfl⟩
      have HXL : Hid (X.data.toList = txtT t) := Lib.hid (by rw [← hX, txtR_yes hok])
      have hxl : X.size ≤ 1912 := by have h9 := txt_len 6 t hok; rw [← size_list, HXL.out]; omega
      have HTT : Hid (∀ W, Below w0.heap.size w0 W → Calls Tryd.prog 41 #[.agg #[.int .i64 tk, .int .i64 tn, .string ts, .slice tA tm tc]] W fun e w' => e = .returned (.string X) ∧ Below W.heap.size W w') := Lib.hid fun W hW => by rw [← hX]; exact impl_TermText t _ _ _ _ _ _ _ (HT.out.belowA hW) (TB.out.below hW)
      clear hX
      have hbk := txtGs_len hrb (ah := ah + 1) (by omega)
      have hek := txtGs_len hre (ah := ah + 1) (by omega)
      have hsb : snodess body + snodess els + 1 ≤ snodes l[j] := by rw [HEQ.out, snodes]; omega
      have BB : Hid (∀ (w : World) (acc : List UInt8), BldB w0 w b acc → acc.length + 3000 * snodess body ≤ 50000000000 → Calls Tryd.prog 69 #[.pointer (some ⟨b, 0, none⟩), .slice bA body.length bc, .int .i64 ((ah : Int) + 1)] w fun e w' => e = .returned (.tuple #[]) ∧ BldB w0 w' b (acc ++ txtGs (ah + 1) body) ∧ KeepW b w w') := Lib.hid fun w acc o h => by
        have := VB.out dp (ah + 1) bA bc w0 w b acc RB.out hb2 hb3 hrb (by omega) o h TB.out
        rwa [show ((ah + 1 : Nat) : Int) = (ah : Int) + 1 from by omega] at this
      have BE : Hid (∀ (w : World) (acc : List UInt8), BldB w0 w b acc → acc.length + 3000 * snodess els ≤ 50000000000 → Calls Tryd.prog 69 #[.pointer (some ⟨b, 0, none⟩), .slice eA els.length ec, .int .i64 ((ah : Int) + 1)] w fun e w' => e = .returned (.tuple #[]) ∧ BldB w0 w' b (acc ++ txtGs (ah + 1) els) ∧ KeepW b w w') := Lib.hid fun w acc o h => by
        have := VE.out dp (ah + 1) eA ec w0 w b acc RE.out he2 he3 hre (by omega) o h TB.out
        rwa [show ((ah + 1 : Nat) : Int) = (ah : Int) + 1 from by omega] at this
      clear hok hrb hre
      have HSZ : Hid ((((⟨#[119, 104, 105, 108, 101, 32]⟩ : ByteArray) ++ X ++ ⟨#[32, 123, 10]⟩) : ByteArray).size ≤ 2000) := Lib.hid (by rw [← size_list]; simp; omega)
      have hc1 : ¬ (9223372036854775807 < 6 + X.size) := by omega
      have hc2 : ¬ (9223372036854775807 < 6 + X.size + 3) := by omega
      go_wp2_with fail
      refine (HTT.out _ B2.out.own).mono ?_
      rintro e w3 ⟨rfl, b3⟩
      have B3 := Lib.hid (B2.out.below b3)
      have K3 := Lib.hid (KeepW.of_below' (b := b) b3)
      clear b3
      go_wp2_with fail
      have le : L2.length + (((⟨#[119, 104, 105, 108, 101, 32]⟩ : ByteArray) ++ X ++ ⟨#[32, 123, 10]⟩) : ByteArray).size ≤ 100000000000 := Nat.le_trans (Nat.add_le_add_left HSZ.out _) (by omega)
      have t1 := bld_write b w0 _ L2 ((⟨#[119, 104, 105, 108, 101, 32]⟩ : ByteArray) ++ X ++ ⟨#[32, 123, 10]⟩) B3.out le
      refine t1.mono ?_
      clear le t1
      rintro e w4 ⟨rfl, b4, k4⟩
      have K4 := Lib.hid (K3.out.trans' k4)
      have L4s : Hid ((L2 ++ (((⟨#[119, 104, 105, 108, 101, 32]⟩ : ByteArray) ++ X ++ ⟨#[32, 123, 10]⟩) : ByteArray).data.toList).length ≤ L2.length + 2000) := Lib.hid (by rw [List.length_append, size_list]; exact Nat.add_le_add_left HSZ.out _)
      obtain ⟨L4, hL4⟩ : ∃ L, L2 ++ (((⟨#[119, 104, 105, 108, 101, 32]⟩ : ByteArray) ++ X ++ ⟨#[32, 123, 10]⟩) : ByteArray).data.toList = L := ⟨_, rfl⟩
      rw [hL4] at b4 L4s
      have HL4 := Lib.hid hL4
      have hl4 := L4s.out
      have B4 := Lib.hid b4
      have z6 := KeepW.cellW K4.out HGB.out SN.out y6
      clear b4 k4 hL4 K3 B3
      go_wp2_with fail
      refine (BB.out _ _ B4.out (by omega)).mono ?_
      rintro e w5 ⟨rfl, b5, k5⟩
      have K5 := Lib.hid (K4.out.trans' k5)
      obtain ⟨L5, hL5⟩ : ∃ L, L4 ++ txtGs (ah + 1) body = L := ⟨_, rfl⟩
      have hl5 : L5.length ≤ L2.length + 2000 + 3000 * snodess body := by rw [← hL5, List.length_append]; omega
      rw [hL5] at b5
      have HL5 := Lib.hid hL5
      have B5 := Lib.hid b5
      clear b5 k5 hL5 z6
      go_wp2_with fail
      have le : L5.length + ((ahead ++ ⟨#[125]⟩) : ByteArray).size ≤ 100000000000 := Nat.le_trans (Nat.add_le_add_left HCL.out _) (by omega)
      have t1 := bld_write b w0 _ L5 (ahead ++ ⟨#[125]⟩) B5.out le
      refine t1.mono ?_
      clear le t1
      rintro e w6 ⟨rfl, b6, k6⟩
      have K6 := Lib.hid (K5.out.trans' k6)
      obtain ⟨L6, hL6⟩ : ∃ L, L5 ++ ((ahead ++ ⟨#[125]⟩) : ByteArray).data.toList = L := ⟨_, rfl⟩
      have hl6 : L6.length ≤ L2.length + 2030 + 3000 * snodess body := by rw [← hL6, List.length_append, size_list]; exact Nat.le_trans (Nat.add_le_add_left HCL.out _) (by omega)
      rw [hL6] at b6
      have HL6 := Lib.hid hL6
      have B6 := Lib.hid b6
      have z7 := KeepW.cellW K6.out HGB.out SN.out y7
      clear b6 k6 hL6
      cases hel : decide (0 < els.length) with
      | false =>
        have h0 : els = [] := List.eq_nil_of_length_eq_zero (by simpa using hel)
        have h0i : ¬ (0 : Int) < (els.length : Int) := by rw [h0]; decide
        have bl := B6.out
        have kp := K6.out
        obtain ⟨LX, hLX⟩ : ∃ L, L6 = L := ⟨_, rfl⟩
        have hlx : LX.length ≤ 56000000000 := by rw [← hLX]; ((try simp only [List.length_append, List.length_cons, List.length_nil]); omega)
        have HLX := Lib.hid hLX
        rw [hLX] at bl
        clear hLX
        have BX := Lib.hid bl
        have KX := Lib.hid (K2.out.trans' kp)
        clear bl kp
        go_wp2_with fail
        refine (bld_write b w0 _ LX ⟨#[10]⟩ BX.out (by simp only [ByteArray.size, List.size_toArray, List.length_cons, List.length_nil]; omega)).mono ?_
        rintro e w8 ⟨rfl, b8, k8⟩
        have B8 : Hid (BldB w0 w8 b (acc ++ txtGs ah (l.take (j + 1)))) := Lib.hid (by
          rw [HTK.out, ← List.append_assoc, HACC.out, HEQ.out, txtG_m (by omega), h0, elseL]
          have e : ACC ++ (blanksL ah ++ (wdL 3 ++ [32]) ++ txtT t ++ ([32, 123, 10] ++ txtGs (ah + 1) body ++ blanksL ah ++ [125]) ++ (if ([] : List St).length = 0 then [] else [32, 101, 108, 115, 101] ++ ([32, 123, 10] ++ txtGs (ah + 1) [] ++ blanksL ah ++ [125])) ++ [10]) = L6 ++ [10] := by rw [← HL6.out, ← HL5.out, ← HL4.out, ← HL2.out, ← HAH.out, ← HXL.out]; simp [wdL, wdB]
          rw [e, HLX.out]
          exact b8)
        have K8 := Lib.hid (KX.out.trans' k8)
        clear b8 k8
        go_wp2_with fail
        go_roundw
        case rel => exact ⟨j + 1, by omega, by go_num, Lib.hid ⟨B8.out, K8.out⟩⟩
        case measure => simp [intOf]; omega
      | true =>
        have h0 : 0 < els.length := by simpa using hel
        have h0i : (0 : Int) < (els.length : Int) := by omega
        go_wp2_with fail
        refine (bld_write b w0 _ L6 ⟨#[32, 101, 108, 115, 101, 32, 123, 10]⟩ B6.out (by simp only [ByteArray.size, List.size_toArray, List.length_cons, List.length_nil]; omega)).mono ?_
        rintro e w7 ⟨rfl, b7, k7⟩
        have K7 := Lib.hid (K6.out.trans' k7)
        obtain ⟨L7, hL7⟩ : ∃ L, L6 ++ (⟨#[32, 101, 108, 115, 101, 32, 123, 10]⟩ : ByteArray).data.toList = L := ⟨_, rfl⟩
        have hl7 : L7.length ≤ L2.length + 2040 + 3000 * snodess body := by rw [← hL7, List.length_append]; have h8 : (⟨#[32, 101, 108, 115, 101, 32, 123, 10]⟩ : ByteArray).data.toList.length = 8 := rfl; omega
        rw [hL7] at b7
        have HL7 := Lib.hid hL7
        have B7 := Lib.hid b7
        have u7 := KeepW.cellW K7.out HGB.out SN.out y7
        clear b7 k7 hL7 z7
        go_wp2_with fail
        refine (BE.out _ _ B7.out (by omega)).mono ?_
        rintro e w9 ⟨rfl, b9, k9⟩
        have K9 := Lib.hid (K7.out.trans' k9)
        obtain ⟨L9, hL9⟩ : ∃ L, L7 ++ txtGs (ah + 1) els = L := ⟨_, rfl⟩
        have hl9 : L9.length ≤ L2.length + 2040 + 3000 * snodess body + 3000 * snodess els := by rw [← hL9, List.length_append]; omega
        rw [hL9] at b9
        have HL9 := Lib.hid hL9
        have B9 := Lib.hid b9
        clear b9 k9 hL9 u7
        go_wp2_with fail
        have le : L9.length + ((ahead ++ ⟨#[125]⟩) : ByteArray).size ≤ 100000000000 := Nat.le_trans (Nat.add_le_add_left HCL.out _) (by omega)
        have t1 := bld_write b w0 _ L9 (ahead ++ ⟨#[125]⟩) B9.out le
        refine t1.mono ?_
        clear le t1
        rintro e w10 ⟨rfl, b10, k10⟩
        have bl := b10
        have kp := K9.out.trans' k10
        clear b10 k10
        obtain ⟨LX, hLX⟩ : ∃ L, L9 ++ ((ahead ++ ⟨#[125]⟩) : ByteArray).data.toList = L := ⟨_, rfl⟩
        have hlx : LX.length ≤ 56000000000 := by rw [← hLX]; (rw [List.length_append, size_list]; exact Nat.le_trans (Nat.add_le_add_left HCL.out _) (by omega))
        have HLX := Lib.hid hLX
        rw [hLX] at bl
        clear hLX
        have BX := Lib.hid bl
        have KX := Lib.hid (K2.out.trans' kp)
        clear bl kp
        go_wp2_with fail
        refine (bld_write b w0 _ LX ⟨#[10]⟩ BX.out (by simp only [ByteArray.size, List.size_toArray, List.length_cons, List.length_nil]; omega)).mono ?_
        rintro e w8 ⟨rfl, b8, k8⟩
        have B8 : Hid (BldB w0 w8 b (acc ++ txtGs ah (l.take (j + 1)))) := Lib.hid (by
          rw [HTK.out, ← List.append_assoc, HACC.out, HEQ.out, txtG_m (by omega), elseL, if_neg (show ¬ els.length = 0 by omega)]
          have e : ACC ++ (blanksL ah ++ (wdL 3 ++ [32]) ++ txtT t ++ ([32, 123, 10] ++ txtGs (ah + 1) body ++ blanksL ah ++ [125]) ++ ([32, 101, 108, 115, 101] ++ ([32, 123, 10] ++ txtGs (ah + 1) els ++ blanksL ah ++ [125])) ++ [10]) = L9 ++ ((ahead ++ ⟨#[125]⟩) : ByteArray).data.toList ++ [10] := by rw [← HL9.out, ← HL7.out, ← HL6.out, ← HL5.out, ← HL4.out, ← HL2.out, ← HAH.out, ← HXL.out]; simp [wdL, wdB]
          rw [e, HLX.out]
          exact b8)
        have K8 := Lib.hid (KX.out.trans' k8)
        clear b8 k8
        go_wp2_with fail
        go_roundw
        case rel => exact ⟨j + 1, by omega, by go_num, Lib.hid ⟨B8.out, K8.out⟩⟩
        case measure => simp [intOf]; omega
    have hk : k = 4 ∨ k = 5 ∨ k = 6 ∨ k = 7 := by omega
    clear hkk e1 e8 e2 e3
    obtain ⟨hnm, rfl, rfl⟩ := shape_w hk HSH.out
    have hxs := name_len hnm
    rw [size_list] at hxs
    have hwl := wdL_len k
    unfold wdL at hwl
    rw [size_list] at hwl
    have HKW := Lib.hid hk
    clear hnm
    have q1 : (k == 1) = false := beq_eq_false_iff_ne.2 (by omega)
    have q2 : (k == 2) = false := beq_eq_false_iff_ne.2 (by omega)
    have q3 : (k == 3) = false := beq_eq_false_iff_ne.2 (by omega)
    have q8 : (k == 8) = false := beq_eq_false_iff_ne.2 (by omega)
    clear hk
    have HSZ : Hid (((wdB k ++ ⟨#[32]⟩ ++ xs ++ ⟨#[59]⟩) : ByteArray).size ≤ 2000) := Lib.hid (by rw [← size_list]; simp; omega)
    have hs1 : (wdB k).size + 1 + xs.size + 1 ≤ 2000 := by omega
    have hc1 : ¬ (9223372036854775807 < (wdB k).size + 1) := by omega
    have hc2 : ¬ (9223372036854775807 < (wdB k).size + 1 + xs.size) := by omega
    have hc3 : ¬ (9223372036854775807 < (wdB k).size + 1 + xs.size + 1) := by omega
    go_upto_region 6 with fail
    have bl := B2.out
    have kp := Keep.refl (fun i => i ≠ b ∧ Sane 5 w2 i) w2
    have KS : Hid (∀ w', KeepW b w2 w' → KeepW b w2 w' ∧ w'.cell? ⟨g, 0, none⟩ = some (.int .i64 k) ∧ w'.cell? ⟨g, 1, none⟩ = some (.string xs)) := Lib.hid (fun w' hk => ⟨hk, KeepW.cellW hk HGB.out SN.out y0, KeepW.cellW hk HGB.out SN.out y1⟩)
    go_region_held3 (fun w' => KeepW b w2 w' ∧ w'.cell? ⟨g, 0, none⟩ = some (.int .i64 k) ∧ w'.cell? ⟨g, 1, none⟩ = some (.string xs))
      (first | exact KS.out _ (KeepW.trans' kp (KeepW.of_below' (by repeat' (first | exact Below.refl _ _ | exact Nat.le_refl _ | (refine Below.alloc ?_ ?_ _) | (refine Below.setCell ?_ ?_ _) | (refine Below.drew ?_) | (refine below_drewN ?_ _) | assumption | (simp; done) | (simp; omega))))) | fail)
      (first
        | (go_at_call 145; refine (impl_stmtWordB k HKW.out _).mono ?_; rintro e wY ⟨rfl, bY⟩; have kp := KeepW.trans' (KeepW.trans' kp (KeepW.of_below' (by repeat' (first | exact Below.refl _ _ | exact Nat.le_refl _ | (refine Below.alloc ?_ ?_ _) | (refine Below.setCell ?_ ?_ _) | (refine Below.drew ?_) | (refine below_drewN ?_ _) | assumption | (simp; done) | (simp; omega))))) (KeepW.of_below' bY); have bl := (bl.below (by repeat' (first | exact Below.refl _ _ | exact Nat.le_refl _ | (refine Below.alloc ?_ ?_ _) | (refine Below.setCell ?_ ?_ _) | (refine Below.drew ?_) | (refine below_drewN ?_ _) | assumption | (simp; done) | (simp; omega)))).below bY; clear bY)
        | (go_at_call 112; have le : L2.length + ((wdB k ++ ⟨#[32]⟩ ++ xs ++ ⟨#[59]⟩) : ByteArray).size ≤ 100000000000 := (Nat.le_trans (Nat.add_le_add_left HSZ.out _) (by omega)); have t1 := bld_write b w0 _ L2 (wdB k ++ ⟨#[32]⟩ ++ xs ++ ⟨#[59]⟩) bl le; refine t1.mono ?_; clear le t1; rintro e wY ⟨rfl, bZ, kZ⟩; have kp := KeepW.trans' (KeepW.trans' kp (KeepW.of_below' (by repeat' (first | exact Below.refl _ _ | exact Nat.le_refl _ | (refine Below.alloc ?_ ?_ _) | (refine Below.setCell ?_ ?_ _) | (refine Below.drew ?_) | (refine below_drewN ?_ _) | assumption | (simp; done) | (simp; omega))))) kZ; have bl := bZ; clear bZ kZ)
        | fail)
    all_goals
     obtain ⟨LX, hLX⟩ : ∃ L, L2 ++ ((wdB k ++ ⟨#[32]⟩ ++ xs ++ ⟨#[59]⟩) : ByteArray).data.toList = L := ⟨_, rfl⟩
     have hlx : LX.length ≤ 56000000000 := by rw [← hLX]; (rw [List.length_append, size_list]; exact Nat.le_trans (Nat.add_le_add_left HSZ.out _) (by omega))
     have HLX := Lib.hid hLX
     rw [hLX] at bl
     clear hLX
     have BX := Lib.hid bl
     have KX := Lib.hid (K2.out.trans' kp)
     clear bl kp
     go_wp2_with fail
     refine (bld_write b w0 _ LX ⟨#[10]⟩ BX.out (by simp only [ByteArray.size, List.size_toArray, List.length_cons, List.length_nil]; omega)).mono ?_
     rintro e w8 ⟨rfl, b8, k8⟩
     have B8 : Hid (BldB w0 w8 b (acc ++ txtGs ah (l.take (j + 1)))) := Lib.hid (by
       rw [HTK.out, ← List.append_assoc, HACC.out, HEQ.out, txtG_w HKW.out]
       have e : ACC ++ (blanksL ah ++ (wdL k ++ [32] ++ xs.data.toList ++ [59]) ++ [10]) = L2 ++ ((wdB k ++ ⟨#[32]⟩ ++ xs ++ ⟨#[59]⟩) : ByteArray).data.toList ++ [10] := by rw [← HL2.out]; unfold wdL; simp
       rw [e, HLX.out]
       exact b8)
     have K8 := Lib.hid (KX.out.trans' k8)
     clear b8 k8
     go_wp2_with fail
     go_roundw
     case rel => exact ⟨j + 1, by omega, by go_num, Lib.hid ⟨B8.out, K8.out⟩⟩
     case measure => simp [intOf]; omega
theorem impl_writeStmts (l : List St) : WsC l := by
  induction hN : snodess l using Nat.strongRecOn generalizing l with
  | ind N ih =>
    refine impl_writeStmts_at l fun g hg t k s body els e => ?_
    have := snodess_le hg
    have h2 : snodes g = 1 + snodess body + snodess els := by rw [e, snodes]
    exact ⟨ih _ (by omega) body rfl, ih _ (by omega) els rfl⟩
end Go.Proofs.YtefcdpkficojgaaDoor
