/- Several texts in one: StLaw. -/
import Derived.Test.YtefcdpkficojgaaDoorKa40
import Derived.Test.YtefcdpkficojgaaDoorKa42
import Derived.Test.YtefcdpkficojgaaDoorKa30
import Derived.Test.YtefcdpkficojgaaDoorKa44
import Derived.Test.YtefcdpkficojgaaDoorKa51
namespace Go.Proofs.YtefcdpkficojgaaDoor
open Go.RowKit
set_option linter.unusedVariables false


theorem quiet_pureS {P : Program} {f : FuncId} {args : Array Value} {w : World} {n : Nat} {v : Value} (h : Calls P f args (w.drewN n) fun e w' => e = .returned v ∧ w.drewN n = w') : Calls P f args (w.drewN n) fun e w'' => e = .returned v ∧ ∃ m, w'' = w.drewN m :=
  Calls.quiet_of (h.mono fun _ _ ⟨he, hw⟩ => ⟨he, by subst hw; exact Qt.refl _⟩)
theorem okGs_of {l : List St} (h : rightGs 6 l = true) (hn : snodess l ≤ 60) : okGs l = true := by
  have key : ∀ l : List St, rightGs 6 l = true → snodess l ≤ 60 → okGs l = true := by
    intro l
    induction l with
    | nil => intro _ _; rw [okGs]
    | cons g r ih =>
      intro h hn
      rw [rightGs, Bool.and_eq_true] at h
      rw [snodess] at hn
      rw [okGs, ih h.2 (by omega), fit_yes (by rw [rightGs, rightGs, h.1]; rfl) (by rw [snodess, snodess]; omega)]; rfl
  exact key l h hn
theorem drawn_txt (code : List UInt8) (n : Nat) (hn : n ≤ 20) : textR (drawnS code) (n : Int) = txtGs n (drawnS code) :=
  textR_yes hn (okGs_of (rightGs_le _ (by omega) (drawn_right code)) (drawn_many code))
set_option maxHeartbeats 1600000 in
theorem spec_DrawStmts (A : Option Addr) (c : Nat) (code : List UInt8) (w : World) (rd : Rd w 1 A code.length (bv code)) (hl : code.length ≤ 1048576) (hc : c ≤ maxLen) :
    Calls Tryd.prog 23 #[.slice A code.length c] w (RetGsO w (drawnS code)) := by
  have RD := Lib.hid rd
  clear rd
  go_enter Tryd.func23, Tryd.ntmps23
  go_wp2_with fail
  refine (spec_l01New A c code _ RD.out hl hc).mono ?_
  rintro e w1 ⟨p, rfl, hp, k1, b1⟩
  have K1 := Lib.hid k1
  have B1 := Lib.hid b1
  have hpl := lt_of_block k1.at'
  clear k1 b1
  go_wp2_with fail
  refine (spec_l04List 3 (by decide) p A c code (curNew code) _ (RD.out.below B1.out) hl hc K1.out).mono ?_
  rintro e w2 ⟨A2, c2, rfl, hl2, hc2, row2, k2, kp2⟩
  have R2 := Lib.hid row2
  have BW : Hid (Below w.heap.size w w2) := Lib.hid (B1.out.trans (kp2.below (n := w.heap.size) (by have := B1.out.size; omega) (fun b hb => by omega)))
  have MW : Hid (∀ b, Made w1 w2 b → Made w w2 b) := Lib.hid fun b hb => ⟨by have := hb.1; have := B1.out.size; omega, hb.2⟩
  clear row2 k2 kp2
  have hll := lstS_len (code := code) (one := stS code 3) (curNew code)
  have D1 : Hid (snodess (lstS code (stS code 3) (curNew code)).1 ≤ 60 → drawnS code = (lstS code (stS code 3) (curNew code)).1) := Lib.hid fun h => by unfold drawnS; rw [if_pos h]
  have D2 : Hid (¬ snodess (lstS code (stS code 3) (curNew code)).1 ≤ 60 → drawnS code = [skipS]) := Lib.hid fun h => by unfold drawnS; rw [if_neg h]
  generalize (lstS code (stS code 3) (curNew code)).1 = l at *
  go_wp2_with fail
  refine (spec_l04Count l A2 c2 60 _ R2.out.any hl2 hc2 (by omega) (by omega)).mono ?_
  rintro e w3 ⟨rfl, q3⟩
  have Q3 := Lib.hid q3.below
  clear q3
  by_cases h : snodess l ≤ 60
  · have HC := Lib.hid (cut0_pos (n := (60 : Int) - (snodess l : Int)) (by omega))
    have hn : ¬ ((60 : Int) - (snodess l : Int) < 0) := by omega
    rw [HC.out]
    go_wp2_with fail
    go_ret
    rw [D1.out h]
    exact ⟨A2, c2, rfl, hl2, hc2, (R2.out.belowO (fun b hb => hb.2) Q3.out).sub (fun b hb => ⟨(MW.out b hb).1, by have := (MW.out b hb).2; have := Q3.out.size; omega⟩), below_then BW.out Q3.out⟩
  · have HC := Lib.hid (cut0_neg (n := (60 : Int) - (snodess l : Int)) (by omega))
    rw [HC.out]
    go_wp2_with fail
    go_ret
    rw [D2.out h]
    have hN := heap_alloc_new w3 (.cells #[.int .i64 8, .string ⟨#[]⟩, .int .i64 0, .int .i64 0, .string ⟨#[]⟩, .slice none 0 0, .slice none 0 0, .slice none 0 0] 104)
    have b03 := below_then BW.out Q3.out
    refine ⟨some ⟨w3.heap.size, 0, none⟩, 1, rfl, Nat.le_refl _, by simp [maxLen], stRowO_of (xs := [⟨8, ⟨#[]⟩, 0, 0, ⟨#[]⟩, none, 0, 0, none, 0, 0, none, 0, 0⟩]) (G := fun _ _ => False) rfl ⟨Rd.new w3 8 1 #[.int .i64 8, .string ⟨#[]⟩, .int .i64 0, .int .i64 0, .string ⟨#[]⟩, .slice none 0 0, .slice none 0 0, .slice none 0 0] 104 rfl, fun _ => ⟨w3.heap.size, 0, _, _, rfl, ⟨b03.size, by simp⟩, hN, fun _ _ h => h⟩, fun _ _ _ h => h.elim, fun _ _ _ _ _ _ h => h.elim⟩ (fun i hi hi' => ?_), b03.alloc b03.size _⟩
    have h0 : i = 0 := by simp at hi; omega
    subst h0
    exact stO_flat (T := fun _ => False) (by unfold i64in; omega) (Nat.zero_le _) zeroO (fun _ h => h)
set_option maxHeartbeats 3200000 in
set_option maxRecDepth 100000 in
theorem law_Stmts (v : Value) (code : List UInt8) (w : World) (o : ∃ A c, v = .slice A code.length c ∧ code.length ≤ c ∧ c ≤ maxLen ∧ Rd w 1 A code.length (bv code)) (tab : TabW w) :
    Calls Tryd.prog 5 #[v] w fun e w' => e = .returned (.bool true) ∧ Below w.heap.size w w' := by
  obtain ⟨A, c, rfl, hl, hc, rd⟩ := o
  have RD := Lib.hid rd
  have TB := Lib.hid tab
  clear rd tab
  by_cases hb : 1048576 < code.length
  · go_enter Tryd.func5, Tryd.ntmps5
    go_wp2_with fail
    refine (big_yes A code.length c _ hb).mono ?_
    rintro e w1 ⟨rfl, rfl⟩
    go_wp2_with fail
    go_ret
    exact ⟨rfl, Below.refl _ _⟩
  have hmany := drawn_many code
  have htot := drawn_tot code
  have HLN := Lib.hid (liness_bd (drawnS code) (ah := 3) (drawn_right code))
  have HTX : Hid ((⟨(textR (drawnS code) 3).toArray⟩ : ByteArray) = ⟨(txtGs 3 (drawnS code)).toArray⟩) := Lib.hid (by rw [show (3 : Int) = ((3 : Nat) : Int) from rfl, drawn_txt code 3 (by omega)])
  have HSZ := Lib.hid (txtGs_len (ah := 3) (drawn_right code) (by omega))
  have HLO := Lib.hid (drawn_locks code)
  have hwh := drawn_whiles code
  have hlo := namesR_len 6 (drawnS code)
  have DR : Hid (∀ W, Below w.heap.size w W → Calls Tryd.prog 23 #[.slice A code.length c] W (RetGsO W (drawnS code))) := Lib.hid fun W bw => spec_DrawStmts A c code W (RD.out.below bw) (by omega) hc
  generalize drawnS code = l at *
  have htx : (txtGs 3 l).length ≤ 180000 := by have := HSZ.out; omega
  go_enter Tryd.func5, Tryd.ntmps5
  go_wp2_with fail
  refine (big_no A code.length c _ hb).mono ?_
  rintro e w0 ⟨rfl, rfl⟩
  go_wp2_with fail
  refine (DR.out _ (Below.refl _ _)).mono ?_
  rintro e w1 ⟨A1, c1, rfl, hl1, hc1, row1, b1⟩
  have R1 := Lib.hid row1.any
  have B1 := Lib.hid b1
  clear row1 b1
  go_wp2_with fail
  refine (DR.out _ B1.out).mono ?_
  rintro e w2 ⟨A2, c2, rfl, hl2, hc2, row2, b2⟩
  have R2 := Lib.hid row2.any
  have S1 := Lib.hid (R1.out.belowA b2)
  have B2 := Lib.hid (below_then B1.out b2)
  clear row2 b2 R1 B1
  go_wp2_with fail
  refine (impl_CountIn l A1 c1 _ S1.out hl1 hc1 (by omega)).mono ?_
  rintro e w3 ⟨rfl, b3⟩
  have S3 := Lib.hid (S1.out.belowA b3)
  have R3 := Lib.hid (R2.out.belowA b3)
  have B3 := Lib.hid (below_then B2.out b3)
  clear b3 S1 R2 B2
  go_wp2_with fail
  refine (impl_StmtsText l A1 c1 _ S3.out hl1 hc1 (by omega) 3 (TB.out.below B3.out)).mono ?_
  rw [HTX.out]
  rintro e w4 ⟨rfl, b4⟩
  have S4 := Lib.hid (S3.out.belowA b4)
  have R4 := Lib.hid (R3.out.belowA b4)
  have B4 := Lib.hid (below_then B3.out b4)
  clear b4 S3 R3 B3
  obtain ⟨X, hX⟩ : ∃ X : ByteArray, (⟨(txtGs 3 l).toArray⟩ : ByteArray) = X := ⟨_, rfl⟩
  have hXs : X.size = (txtGs 3 l).length := by rw [← hX, str_size]
  have hXd : Hid (X.data.toList = txtGs 3 l) := Lib.hid (by rw [← hX])
  rw [hX]
  have HX := Lib.hid hX
  clear hX
  generalize hT : txtGs 3 l = T at *
  clear hT
  go_wp2_with fail
  go_loopw [7, 8] (fun ln i wr => ∃ j : Nat, j ≤ X.size ∧ i = .int .i64 j ∧ ln = .int .i64 ((nlL (T.take j) : Nat) : Int) ∧ wr = w4) (fun _ i _ => X.size - (intOf i).toNat)
  case atStart => exact ⟨0, Nat.zero_le _, rfl, by simp [nlL_nil], rfl⟩
  case round =>
    obtain ⟨j, hj, rfl, rfl, rfl⟩ := hrel
    by_cases hlt : j < X.size
    · have hjt : j < T.length := by omega
      have h0j : (0 : Int) ≤ (j : Int) := by omega
      have h1j : (j : Int) < (X.size : Int) := by omega
      have hnl := nlL_le (T.take j)
      have hnl2 : (T.take j).length ≤ T.length := by rw [List.length_take]; omega
      have hgx : X[j] = T[j] := by
        have h1 : X.data.toList[j]? = T[j]? := by rw [hXd.out]
        rw [List.getElem?_eq_getElem hjt] at h1
        rw [List.getElem?_eq_getElem (by rw [size_list]; exact hlt)] at h1
        exact Option.some.inj h1
      have HN := Lib.hid (nlL_take hjt)
      generalize hcv : T[j] = cv at *
      have HG := Lib.hid hgx
      by_cases h10 : (cv.toNat : Int) = 10
      · have HN2 : Hid (nlL (T.take (j + 1)) = nlL (T.take j) + 1) := Lib.hid (by rw [HN.out, if_pos h10])
        have hx10 : (X[j].toNat : Int) = 10 := by rw [hgx]; exact h10
        clear hgx hcv
        go_wp2_with fail
        go_roundw
        case rel => exact ⟨j + 1, by omega, by go_num, by rw [HN2.out]; go_num, (by first | rfl | trivial)⟩
        case measure => simp [intOf]; omega
      · have HN2 : Hid (nlL (T.take (j + 1)) = nlL (T.take j)) := Lib.hid (by rw [HN.out, if_neg h10]; rfl)
        have hx10 : ¬ (X[j].toNat : Int) = 10 := by rw [hgx]; exact h10
        clear hgx hcv
        go_wp2_with fail
        go_roundw
        case rel => exact ⟨j + 1, by omega, by go_num, by rw [HN2.out], (by first | rfl | trivial)⟩
        case measure => simp [intOf]; omega
    · have hall : T.take j = T := List.take_of_length_le (by omega)
      rw [hall]
      obtain ⟨hln1, hln2⟩ := HLN.out
      generalize nlL T = ln at *
      go_wp2_with fail
      refine (impl_NamesIn l A1 c1 3 _ S4.out hl1 hc1 (by omega)).mono ?_
      rintro e w5 ⟨v5, rfl, own5⟩
      obtain ⟨A5, c5, rfl, hc5⟩ := own5.slice
      have S5 := Lib.hid (S4.out.belowA own5.2)
      have R5 := Lib.hid (R4.out.belowA own5.2)
      have B5 := Lib.hid (below_then B4.out own5.2)
      clear own5
      go_wp2_with fail
      refine (impl_NamesIn l A1 c1 6 _ S5.out hl1 hc1 (by omega)).mono ?_
      rintro e w6 ⟨v6, rfl, own6⟩
      obtain ⟨A6, c6, rfl, hc6⟩ := own6.slice
      have N6 := Lib.hid own6.isStrs
      have R6 := Lib.hid (R5.out.belowA own6.2)
      have B6 := Lib.hid (below_then B5.out own6.2)
      clear own6 S5 R5 B5
      generalize hlk : namesR 6 l = ss at *
      have HLK := Lib.hid hlk
      have hwl : ((namesR 3 l).length : Int) ≤ 1 := by omega
      generalize (namesR 3 l).length = wn at *
      clear hlk
      go_wp2_with fail
      go_loopw [11] (fun i wr => ∃ j : Nat, j ≤ ss.length ∧ i = .int .i64 j ∧ Hid (Below w6.heap.size w6 wr)) (fun i _ => ss.length - (intOf i).toNat)
      case atStart => exact ⟨0, Nat.zero_le _, rfl, Lib.hid (Below.refl _ _)⟩
      case round =>
        obtain ⟨j, hj, rfl, HB⟩ := hrel
        have NN := Lib.hid (N6.out.below HB.out)
        by_cases hlt : j < ss.length
        · obtain ⟨A', c', e', _, hcm, hrd⟩ := NN.out
          injection e' with e1 e2 e3
          subst e1 e3
          obtain ⟨b, off, rfl, hcell⟩ := rd_str hrd hlt
          unfold maxLen at hcm
          have h0k : (0 : Int) ≤ (j : Int) := by omega
          have h1k : (j : Int) < (ss.length : Int) := by omega
          have hkc : (j : Int) ≤ (c6 : Int) := by omega
          have hkn : j ≤ c6 := by omega
          have IS := Lib.hid (isStrs_take NN.out (k := j) (by omega))
          have HP := Lib.hid (nodup_prefix HLO.out.1 hlt)
          have HNM : Hid (isNameL ss[j].data.toList = true) := Lib.hid (HLO.out.2 _ (List.getElem_mem hlt))
          have HAS : Hid (∀ n, Calls Tryd.prog 26 #[.slice (some ⟨b, off, none⟩) j c6, .string ss[j]] (wr.drewN n) fun e w' => e = .returned (.bool false) ∧ wr.drewN n = w') := Lib.hid fun n => by
            have := laws_hasTextS (.slice (some ⟨b, off, none⟩) j c6) (ss.take j) ss[j] (wr.drewN n) (IS.out.below (below_drewN (Below.refl _ _) n))
            rw [HP.out] at this
            exact this
          have NAM : Hid (∀ n, Calls Tryd.prog 27 #[.string ss[j]] (wr.drewN n) fun e w' => e = .returned (.bool true) ∧ wr.drewN n = w') := Lib.hid fun n => by
            have := impl_IsName ss[j] (wr.drewN n)
            rw [HNM.out] at this
            exact this
          clear hrd
          go_wp2_with fail
          go_quiet ((first | (go_at_call 26; exact quiet_pureS (HAS.out _)) | (go_at_call 27; exact quiet_pureS (NAM.out _)) | fail))
          go_wp2_with fail
          go_roundw
          case rel => exact ⟨j + 1, by omega, by go_num, Lib.hid (below_drewN HB.out _)⟩
          case measure => simp [intOf]; omega
        · have RZ := Lib.hid (R6.out.belowA HB.out)
          have BZ := Lib.hid (below_then B6.out HB.out)
          have heq : ((snodess l : Nat) : Int) = ((snodess l : Nat) : Int) := rfl
          have hge : ((snodess l : Nat) : Int) ≤ ((ln : Nat) : Int) := by omega
          have hle : ((ln : Nat) : Int) ≤ 3 * ((snodess l : Nat) : Int) := by omega
          go_wp2_with fail
          refine (spec_CountIn l (by omega) A2 c2 _ RZ.out hl2 hc2).mono ?_
          rintro e w7 ⟨rfl, q7⟩
          have R7 := Lib.hid (RZ.out.belowA q7.below)
          have N7 := Lib.hid (NN.out.below q7.below)
          have B7 := Lib.hid (below_then BZ.out q7.below)
          clear q7 RZ BZ
          go_wp2_with fail
          refine (spec_NamesIn l A2 c2 6 _ R7.out hl2 hc2).mono ?_
          rw [HLK.out]
          rintro e w8 ⟨v8, rfl, own8⟩
          have O8 := Lib.hid own8.isStrs
          have N8 := Lib.hid (N7.out.below own8.2)
          have R8 := Lib.hid (R7.out.belowA own8.2)
          have B8 := Lib.hid (below_then B7.out own8.2)
          obtain ⟨A8, c8, rfl, _⟩ := own8.slice
          clear own8 R7 N7 B7
          go_wp2_with fail
          refine (laws_sameTextsS _ _ ss _ N8.out O8.out).mono ?_
          rintro e w9 ⟨rfl, q9⟩
          have R9 := Lib.hid (R8.out.belowA q9.below)
          have B9 := Lib.hid (below_then B8.out q9.below)
          clear q9 R8 B8 N8 O8
          go_wp2_with fail
          refine (spec_StmtsText l A2 c2 _ R9.out hl2 hc2 (by omega) 3).mono ?_
          rw [HTX.out, HX.out]
          rintro e w10 ⟨rfl, b10⟩
          have B10 := Lib.hid (below_then B9.out b10)
          have hxx : (X.toList == X.toList) = true := by simp
          clear b10
          go_wp2_with fail
          go_ret
          exact ⟨rfl, B10.out⟩
end Go.Proofs.YtefcdpkficojgaaDoor
