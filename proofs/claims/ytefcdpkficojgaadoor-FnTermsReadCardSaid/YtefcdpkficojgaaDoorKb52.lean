/- Several texts in one: LwTr. -/
import Derived.Test.YtefcdpkficojgaaDoorKb34
import Derived.Test.YtefcdpkficojgaaDoorKb45
import Derived.Test.YtefcdpkficojgaaDoorKb50
import Derived.Test.YtefcdpkficojgaaDoorKb51
import Derived.Test.YtefcdpkficojgaaDoorKb31
namespace Go.Proofs.YtefcdpkficojgaaDoor
open Go.RowKit
set_option linter.unusedVariables false


/-- the two cells of a fault -/
def BoxF (w : World) (g : Nat) (a c : Int) : Prop := w.cell? ⟨g, 0, none⟩ = some (.int .i64 a) ∧ w.cell? ⟨g, 1, none⟩ = some (.int .i64 c)
theorem BoxF.below {w w' : World} {g : Nat} {a c : Int} (h : BoxF w g a c) (hb : Below w.heap.size w w') : BoxF w' g a c := ⟨cell_keep hb h.1, cell_keep hb h.2⟩
theorem BoxF.new (w : World) (a c : Int) (e : TypeId) : BoxF (w.alloc (.cells #[.int .i64 a, .int .i64 c] e)) w.heap.size a c := by
  have h := heap_alloc_new w (.cells #[.int .i64 a, .int .i64 c] e)
  constructor <;> rw [Lib.cell_of_heap h] <;> rfl
theorem app_lits (a b : List UInt8) : (⟨a.toArray⟩ : ByteArray) ++ ⟨b.toArray⟩ = ⟨(a ++ b).toArray⟩ := str_ext (by simp)
theorem alloc_below (w : World) (o : Obj) : Below w.heap.size w (w.alloc o) := Below.alloc (Below.refl _ _) (Nat.le_refl _) _
set_option maxHeartbeats 3200000 in
set_option maxRecDepth 100000 in
theorem law_TermsRead (v : Value) (code : List UInt8) (w : World) (o : ∃ A c, v = .slice A code.length c ∧ code.length ≤ c ∧ c ≤ maxLen ∧ Rd w 1 A code.length (bv code)) (tab : TabW w) :
    Calls Tryd.prog 8 #[v] w fun e w' => e = .returned (.bool true) ∧ Below w.heap.size w w' := by
  obtain ⟨A, c, rfl, hl, hc, rd⟩ := o
  have RD := Lib.hid rd
  have TB := Lib.hid tab
  clear rd tab
  by_cases hb : 1048576 < code.length
  · go_enter Tryd.func8, Tryd.ntmps8
    go_wp2_with fail
    refine (big_yes A code.length c _ hb).mono ?_
    rintro e w1 ⟨rfl, rfl⟩
    go_wp2_with fail
    go_ret
    exact ⟨rfl, Below.refl _ _⟩
  have hmany := drawn_many code
  have htot := drawn_tot code
  have hsh := drawn_short code
  have hri := rightGs_le _ (by omega : 3 ≤ 6) (drawn_right code)
  have hok := termD_ok code 3 (curNew code)
  have HTX : Hid ((⟨(textR (drawnS code) 0).toArray⟩ : ByteArray) = ⟨(txtGs 0 (drawnS code)).toArray⟩) := Lib.hid (by rw [show (0 : Int) = ((0 : Nat) : Int) from rfl, drawn_txt code 0 (by omega)])
  have DR : Hid (∀ W, Below w.heap.size w W → Calls Tryd.prog 23 #[.slice A code.length c] W (RetGsO W (drawnS code))) := Lib.hid fun W bw => spec_DrawStmts A c code W (RD.out.below bw) (by omega) hc
  have DT : Hid (∀ W, Below w.heap.size w W → Calls Tryd.prog 40 #[.slice A code.length c] W (RetT W (termD code 3 (curNew code)).1)) := Lib.hid fun W bw => spec_DrawTerm A c code W (RD.out.below bw) (by omega) hc
  generalize (termD code 3 (curNew code)).1 = t at *
  generalize drawnS code = l at *
  have RT1 := Lib.hid (term_back hok)
  have RT2 := term_more hok
  have RS1 := Lib.hid (stmts_back hri hmany (show (txtGs 0 l).length ≤ 6000 by omega))
  have RS2 := stmts_more hri hmany (show (txtGs 0 l).length + 1 ≤ 6000 by omega)
  have TX := Lib.hid (txtR_yes (okT_le (by omega : 3 ≤ 6) hok))
  have HX := txt_len 3 t hok
  have hxz : (⟨(txtT t).toArray⟩ : ByteArray).size = (txtT t).length := str_size _
  have hzz : (⟨(txtGs 0 l).toArray⟩ : ByteArray).size = (txtGs 0 l).length := str_size _
  rw [← app_lits] at RT2 RS2
  rw [← hxz] at RT2
  rw [← hzz] at RS2
  obtain ⟨X, hX⟩ : ∃ X : ByteArray, (⟨(txtT t).toArray⟩ : ByteArray) = X := ⟨_, rfl⟩
  obtain ⟨Z, hZ⟩ : ∃ Z : ByteArray, (⟨(txtGs 0 l).toArray⟩ : ByteArray) = Z := ⟨_, rfl⟩
  rw [hX] at RT1 RT2 hxz
  rw [hZ] at RS1 RS2 hzz HTX
  have TX2 : Hid ((⟨(txtR t).toArray⟩ : ByteArray) = X) := Lib.hid (by rw [TX.out, hX])
  have hX6 : X.size ≤ 300 := by omega
  have hZ6 : Z.size ≤ 6000 := by omega
  have HRT2 : Hid ((readT (X ++ ⟨#[32, 41]⟩)).2 = (3, (X.size : Int) + 1)) := Lib.hid (by
    have e : (⟨([32, 41] : List UInt8).toArray⟩ : ByteArray) = ⟨#[32, 41]⟩ := rfl
    rw [e] at RT2
    rw [RT2]
    simp)
  have HRS2 : Hid ((readS (Z ++ ⟨#[125]⟩)).2 = (3, (Z.size : Int))) := Lib.hid (by
    have e : (⟨([125] : List UInt8).toArray⟩ : ByteArray) = ⟨#[125]⟩ := rfl
    rw [e] at RS2
    exact RS2)
  clear RT2 RS2 hxz hzz HX hX hZ TX hok hri hsh
  go_enter Tryd.func8, Tryd.ntmps8
  go_wp2_with fail
  refine (big_no A code.length c _ hb).mono ?_
  rintro e w0 ⟨rfl, rfl⟩
  go_wp2_with fail
  refine (DT.out _ (Below.refl _ _)).mono ?_
  rintro e w1 ⟨k1, n1, s1, A1, m1, c1, rfl, t1, b1⟩
  have BA1 := Lib.hid (b1.trans ((alloc_below w1 (.cells #[.int .i64 k1, .int .i64 n1, .string s1, .slice A1 m1 c1] 24)).mono b1.size))
  have XX1 : Hid (Box4 (w1.alloc (.cells #[.int .i64 k1, .int .i64 n1, .string s1, .slice A1 m1 c1] 24)) w1.heap.size (vt k1 n1 s1 A1 m1 c1)) := Lib.hid (Box4.lit rfl)
  have TT1 := Lib.hid (t1.any.belowA (alloc_below w1 (.cells #[.int .i64 k1, .int .i64 n1, .string s1, .slice A1 m1 c1] 24)))
  have BB := BA1
  clear BA1 b1 t1
  go_wp2_with fail
  obtain ⟨W1, hW1⟩ : ∃ W, (w1.alloc (.cells #[.int .i64 k1, .int .i64 n1, .string s1, .slice A1 m1 c1] 24)) = W := ⟨_, rfl⟩
  rw [hW1] at XX1 TT1 BB  ⊢
  clear hW1
  generalize hg1 : w1.heap.size = g1 at *
  clear hg1
  refine (DT.out _ BB.out).mono ?_
  rintro e w2 ⟨k2, n2, s2, A2, m2, c2, rfl, t2, b2⟩
  have BA2 := Lib.hid (b2.trans ((alloc_below w2 (.cells #[.int .i64 k2, .int .i64 n2, .string s2, .slice A2 m2 c2] 24)).mono b2.size))
  have XX2 : Hid (Box4 (w2.alloc (.cells #[.int .i64 k2, .int .i64 n2, .string s2, .slice A2 m2 c2] 24)) w2.heap.size (vt k2 n2 s2 A2 m2 c2)) := Lib.hid (Box4.lit rfl)
  have TT2 := Lib.hid (t2.any.belowA (alloc_below w2 (.cells #[.int .i64 k2, .int .i64 n2, .string s2, .slice A2 m2 c2] 24)))
  replace XX1 := Lib.hid (XX1.out.below BA2.out)
  replace TT1 := Lib.hid (TT1.out.belowA BA2.out)
  replace BB := Lib.hid (below_then BB.out BA2.out)
  clear BA2 b2 t2
  go_wp2_with fail
  obtain ⟨W2, hW2⟩ : ∃ W, (w2.alloc (.cells #[.int .i64 k2, .int .i64 n2, .string s2, .slice A2 m2 c2] 24)) = W := ⟨_, rfl⟩
  rw [hW2] at XX2 TT2 BB XX1 TT1 ⊢
  clear hW2
  generalize hg2 : w2.heap.size = g2 at *
  clear hg2
  refine (DR.out _ BB.out).mono ?_
  rintro e w3 ⟨A3, c3, rfl, hl3, hc3, row3, b3⟩
  have RR3 := Lib.hid (row3.fr (lo := 0) (fun _ _ => Nat.zero_le _))
  replace XX1 := Lib.hid (XX1.out.below b3)
  replace TT1 := Lib.hid (TT1.out.belowA b3)
  replace XX2 := Lib.hid (XX2.out.below b3)
  replace TT2 := Lib.hid (TT2.out.belowA b3)
  replace BB := Lib.hid (below_then BB.out b3)
  clear row3 b3
  go_wp2_with fail
  refine (DR.out _ BB.out).mono ?_
  rintro e w4 ⟨A4, c4, rfl, hl4, hc4, row4, b4⟩
  have RR4 := Lib.hid (row4.fr (lo := 0) (fun _ _ => Nat.zero_le _))
  replace XX1 := Lib.hid (XX1.out.below b4)
  replace TT1 := Lib.hid (TT1.out.belowA b4)
  replace XX2 := Lib.hid (XX2.out.below b4)
  replace TT2 := Lib.hid (TT2.out.belowA b4)
  replace RR3 := Lib.hid (RR3.out.belowF b4)
  replace BB := Lib.hid (below_then BB.out b4)
  clear row4 b4
  obtain ⟨q0, q1, q2, q3⟩ := XX1.out
  simp only [vt] at q0 q1 q2 q3
  go_wp2_with fail
  refine (impl_TermText t k1 n1 s1 A1 m1 c1 _ TT1.out (TB.out.below BB.out)).mono ?_
  rw [TX2.out]
  rintro e w5 ⟨rfl, b5⟩
  replace XX2 := Lib.hid (XX2.out.below b5)
  replace TT2 := Lib.hid (TT2.out.belowA b5)
  replace RR3 := Lib.hid (RR3.out.belowF b5)
  replace RR4 := Lib.hid (RR4.out.belowF b5)
  replace BB := Lib.hid (below_then BB.out b5)
  clear b5 q0 q1 q2 q3 XX1 TT1
  go_wp2_with fail
  have cl6 := impl_ReadTerm (X) _ (TB.out.below BB.out) (by omega)
  refine cl6.mono ?_
  clear cl6
  rw [RT1.out]
  rintro e w6 ⟨k6, n6, s6, A6, m6, c6, rfl, t6, b6⟩
  have BL6 : Hid (Below w6.heap.size w6 ((w6.alloc (.cells #[.int .i64 k6, .int .i64 n6, .string s6, .slice A6 m6 c6] 24)).alloc (.cells #[.int .i64 0, .int .i64 0] 26))) := Lib.hid ((alloc_below w6 (.cells #[.int .i64 k6, .int .i64 n6, .string s6, .slice A6 m6 c6] 24)).trans ((alloc_below _ (.cells #[.int .i64 0, .int .i64 0] 26)).mono (by simp)))
  have BA6 := Lib.hid (b6.trans (BL6.out.mono b6.size))
  have FF6 : Hid (BoxF ((w6.alloc (.cells #[.int .i64 k6, .int .i64 n6, .string s6, .slice A6 m6 c6] 24)).alloc (.cells #[.int .i64 0, .int .i64 0] 26)) (w6.heap.size + 1) 0 0) := Lib.hid (by have := BoxF.new (w6.alloc (.cells #[.int .i64 k6, .int .i64 n6, .string s6, .slice A6 m6 c6] 24)) 0 0 26; simpa using this)
  have XX6 : Hid (Box4 ((w6.alloc (.cells #[.int .i64 k6, .int .i64 n6, .string s6, .slice A6 m6 c6] 24)).alloc (.cells #[.int .i64 0, .int .i64 0] 26)) w6.heap.size (vt k6 n6 s6 A6 m6 c6)) := Lib.hid ((Box4.lit rfl : Box4 (w6.alloc (.cells #[.int .i64 k6, .int .i64 n6, .string s6, .slice A6 m6 c6] 24)) _ (vt k6 n6 s6 A6 m6 c6)).below (alloc_below _ _))
  have TT6 := Lib.hid (t6.any.belowA BL6.out)
  replace XX2 := Lib.hid (XX2.out.below BA6.out)
  replace TT2 := Lib.hid (TT2.out.belowA BA6.out)
  replace RR3 := Lib.hid (RR3.out.belowF BA6.out)
  replace RR4 := Lib.hid (RR4.out.belowF BA6.out)
  replace BB := Lib.hid (below_then BB.out BA6.out)
  clear BA6 BL6 b6 t6
  go_wp2_with fail
  obtain ⟨W6, hW6⟩ : ∃ W, ((w6.alloc (.cells #[.int .i64 k6, .int .i64 n6, .string s6, .slice A6 m6 c6] 24)).alloc (.cells #[.int .i64 0, .int .i64 0] 26)) = W := ⟨_, rfl⟩
  rw [hW6] at FF6 XX6 TT6 BB XX2 TT2 RR3 RR4 ⊢
  clear hW6
  generalize hg6 : w6.heap.size = g6 at *
  clear hg6
  have cl7 := impl_ReadTerm (X ++ ⟨#[32, 41]⟩) _ (TB.out.below BB.out) (by rw [ByteArray.size_append]; show X.size + 2 ≤ 1048576; omega)
  refine cl7.mono ?_
  clear cl7
  rw [HRT2.out]
  rintro e w7 ⟨k7, n7, s7, A7, m7, c7, rfl, t7, b7⟩
  have BL7 : Hid (Below w7.heap.size w7 ((w7.alloc (.cells #[.int .i64 k7, .int .i64 n7, .string s7, .slice A7 m7 c7] 24)).alloc (.cells #[.int .i64 3, .int .i64 ((X.size : Int) + 1)] 26))) := Lib.hid ((alloc_below w7 (.cells #[.int .i64 k7, .int .i64 n7, .string s7, .slice A7 m7 c7] 24)).trans ((alloc_below _ (.cells #[.int .i64 3, .int .i64 ((X.size : Int) + 1)] 26)).mono (by simp)))
  have BA7 := Lib.hid (b7.trans (BL7.out.mono b7.size))
  have FF7 : Hid (BoxF ((w7.alloc (.cells #[.int .i64 k7, .int .i64 n7, .string s7, .slice A7 m7 c7] 24)).alloc (.cells #[.int .i64 3, .int .i64 ((X.size : Int) + 1)] 26)) (w7.heap.size + 1) 3 ((X.size : Int) + 1)) := Lib.hid (by have := BoxF.new (w7.alloc (.cells #[.int .i64 k7, .int .i64 n7, .string s7, .slice A7 m7 c7] 24)) 3 ((X.size : Int) + 1) 26; simpa using this)
  replace XX2 := Lib.hid (XX2.out.below BA7.out)
  replace TT2 := Lib.hid (TT2.out.belowA BA7.out)
  replace RR3 := Lib.hid (RR3.out.belowF BA7.out)
  replace RR4 := Lib.hid (RR4.out.belowF BA7.out)
  replace FF6 := Lib.hid (FF6.out.below BA7.out)
  replace XX6 := Lib.hid (XX6.out.below BA7.out)
  replace TT6 := Lib.hid (TT6.out.belowA BA7.out)
  replace BB := Lib.hid (below_then BB.out BA7.out)
  clear BA7 BL7 b7 t7
  go_wp2_with fail
  obtain ⟨W7, hW7⟩ : ∃ W, ((w7.alloc (.cells #[.int .i64 k7, .int .i64 n7, .string s7, .slice A7 m7 c7] 24)).alloc (.cells #[.int .i64 3, .int .i64 ((X.size : Int) + 1)] 26)) = W := ⟨_, rfl⟩
  rw [hW7] at FF7 BB XX2 TT2 RR3 RR4 FF6 XX6 TT6 ⊢
  clear hW7
  generalize hg7 : w7.heap.size = g7 at *
  clear hg7
  refine (impl_StmtsText l A3 c3 _ RR3.out.any hl3 hc3 (by omega) 0 (TB.out.below BB.out)).mono ?_
  rw [HTX.out]
  rintro e w8 ⟨rfl, b8⟩
  replace XX2 := Lib.hid (XX2.out.below b8)
  replace TT2 := Lib.hid (TT2.out.belowA b8)
  replace RR3 := Lib.hid (RR3.out.belowF b8)
  replace RR4 := Lib.hid (RR4.out.belowF b8)
  replace FF6 := Lib.hid (FF6.out.below b8)
  replace XX6 := Lib.hid (XX6.out.below b8)
  replace TT6 := Lib.hid (TT6.out.belowA b8)
  replace FF7 := Lib.hid (FF7.out.below b8)
  replace BB := Lib.hid (below_then BB.out b8)
  clear b8
  go_wp2_with fail
  have cl9 := impl_ReadStmts (Z) _ (TB.out.below BB.out)
  refine cl9.mono ?_
  clear cl9
  rw [RS1.out]
  rintro e w9 ⟨A9, c9, rfl, hl9, hc9, row9, b9⟩
  have BL9 : Hid (Below w9.heap.size w9 (w9.alloc (.cells #[.int .i64 0, .int .i64 0] 26))) := Lib.hid (alloc_below _ _)
  have BA9 := Lib.hid (b9.trans (BL9.out.mono b9.size))
  have FF9 : Hid (BoxF (w9.alloc (.cells #[.int .i64 0, .int .i64 0] 26)) w9.heap.size 0 0) := Lib.hid (BoxF.new _ _ _ _)
  have RR9 := Lib.hid ((row9.fr (lo := 0) (fun _ _ => Nat.zero_le _)).belowF BL9.out)
  replace XX2 := Lib.hid (XX2.out.below BA9.out)
  replace TT2 := Lib.hid (TT2.out.belowA BA9.out)
  replace RR3 := Lib.hid (RR3.out.belowF BA9.out)
  replace RR4 := Lib.hid (RR4.out.belowF BA9.out)
  replace FF6 := Lib.hid (FF6.out.below BA9.out)
  replace XX6 := Lib.hid (XX6.out.below BA9.out)
  replace TT6 := Lib.hid (TT6.out.belowA BA9.out)
  replace FF7 := Lib.hid (FF7.out.below BA9.out)
  replace BB := Lib.hid (below_then BB.out BA9.out)
  clear BA9 BL9 b9 row9
  go_upto_region 12 with fail
  obtain ⟨W9, hW9⟩ : ∃ W, (w9.alloc (.cells #[.int .i64 0, .int .i64 0] 26)) = W := ⟨_, rfl⟩
  rw [hW9] at FF9 RR9 BB XX2 TT2 RR3 RR4 FF6 XX6 TT6 FF7 ⊢
  clear hW9
  generalize hg9 : w9.heap.size = g9 at *
  clear hg9
  go_wp2_with fail
  have cl10 := impl_ReadStmts (Z ++ ⟨#[125]⟩) _ (TB.out.below BB.out)
  refine cl10.mono ?_
  clear cl10
  rw [HRS2.out]
  rintro e w10 ⟨A10, c10, rfl, hl10, hc10, row10, b10⟩
  have BL10 : Hid (Below w10.heap.size w10 (w10.alloc (.cells #[.int .i64 3, .int .i64 (Z.size : Int)] 26))) := Lib.hid (alloc_below _ _)
  have BA10 := Lib.hid (b10.trans (BL10.out.mono b10.size))
  have FF10 : Hid (BoxF (w10.alloc (.cells #[.int .i64 3, .int .i64 (Z.size : Int)] 26)) w10.heap.size 3 (Z.size : Int)) := Lib.hid (BoxF.new _ _ _ _)
  generalize (readS (Z ++ ⟨#[125]⟩)).1 = lx at *
  replace XX2 := Lib.hid (XX2.out.below BA10.out)
  replace TT2 := Lib.hid (TT2.out.belowA BA10.out)
  replace RR3 := Lib.hid (RR3.out.belowF BA10.out)
  replace RR4 := Lib.hid (RR4.out.belowF BA10.out)
  replace FF6 := Lib.hid (FF6.out.below BA10.out)
  replace XX6 := Lib.hid (XX6.out.below BA10.out)
  replace TT6 := Lib.hid (TT6.out.belowA BA10.out)
  replace FF7 := Lib.hid (FF7.out.below BA10.out)
  replace FF9 := Lib.hid (FF9.out.below BA10.out)
  replace RR9 := Lib.hid (RR9.out.belowF BA10.out)
  replace BB := Lib.hid (below_then BB.out BA10.out)
  clear BA10 BL10 b10 row10
  go_upto_region 13 with fail
  obtain ⟨W10, hW10⟩ : ∃ W, (w10.alloc (.cells #[.int .i64 3, .int .i64 (Z.size : Int)] 26)) = W := ⟨_, rfl⟩
  rw [hW10] at FF10 BB XX2 TT2 RR3 RR4 FF6 XX6 TT6 FF7 FF9 RR9 ⊢
  clear hW10
  generalize hg10 : w10.heap.size = g10 at *
  clear hg10
  obtain ⟨x0, x1, x2, x3⟩ := XX6.out
  obtain ⟨y0, y1, y2, y3⟩ := XX2.out
  simp only [vt] at x0 x1 x2 x3 y0 y1 y2 y3
  obtain ⟨f0, f1⟩ := FF6.out
  go_wp2_with fail
  refine (laws_sameTerm t k6 n6 s6 A6 m6 c6 k2 n2 s2 A2 m2 c2 _ TT6.out TT2.out).mono ?_
  rintro e w11 ⟨rfl, b11⟩
  replace XX2 := Lib.hid (XX2.out.below b11)
  replace TT2 := Lib.hid (TT2.out.belowA b11)
  replace RR3 := Lib.hid (RR3.out.belowF b11)
  replace RR4 := Lib.hid (RR4.out.belowF b11)
  replace FF6 := Lib.hid (FF6.out.below b11)
  replace XX6 := Lib.hid (XX6.out.below b11)
  replace TT6 := Lib.hid (TT6.out.belowA b11)
  replace FF7 := Lib.hid (FF7.out.below b11)
  replace FF9 := Lib.hid (FF9.out.below b11)
  replace RR9 := Lib.hid (RR9.out.belowF b11)
  replace FF10 := Lib.hid (FF10.out.below b11)
  replace BB := Lib.hid (below_then BB.out b11)
  clear b11 x0 x1 x2 x3 y0 y1 y2 y3 f0 f1
  obtain ⟨f0, f1⟩ := FF7.out
  obtain ⟨h0, h1⟩ := FF9.out
  go_wp2_with fail
  refine (laws_sameStmts l (fun g _ => laws_sameStmt g) A9 A4 c9 c4 _ RR9.out.any RR4.out.any hl9 hl4 hc9 hc4).mono ?_
  rintro e w12 ⟨rfl, b12⟩
  replace XX2 := Lib.hid (XX2.out.below b12)
  replace TT2 := Lib.hid (TT2.out.belowA b12)
  replace RR3 := Lib.hid (RR3.out.belowF b12)
  replace RR4 := Lib.hid (RR4.out.belowF b12)
  replace FF6 := Lib.hid (FF6.out.below b12)
  replace XX6 := Lib.hid (XX6.out.below b12)
  replace TT6 := Lib.hid (TT6.out.belowA b12)
  replace FF7 := Lib.hid (FF7.out.below b12)
  replace FF9 := Lib.hid (FF9.out.below b12)
  replace RR9 := Lib.hid (RR9.out.belowF b12)
  replace FF10 := Lib.hid (FF10.out.below b12)
  replace BB := Lib.hid (below_then BB.out b12)
  clear b12 f0 f1 h0 h1
  go_wp2_with fail
  refine (impl_SameStmts l l A9 A3 c9 c3 _ 0 RR9.out RR3.out hl9 hl3 hc9 hc3).mono ?_
  rw [samesG_yes rfl]
  rintro e w13 ⟨rfl, b13⟩
  replace XX2 := Lib.hid (XX2.out.below b13)
  replace TT2 := Lib.hid (TT2.out.belowA b13)
  replace RR3 := Lib.hid (RR3.out.belowF b13)
  replace RR4 := Lib.hid (RR4.out.belowF b13)
  replace FF6 := Lib.hid (FF6.out.below b13)
  replace XX6 := Lib.hid (XX6.out.below b13)
  replace TT6 := Lib.hid (TT6.out.belowA b13)
  replace FF7 := Lib.hid (FF7.out.below b13)
  replace FF9 := Lib.hid (FF9.out.below b13)
  replace RR9 := Lib.hid (RR9.out.belowF b13)
  replace FF10 := Lib.hid (FF10.out.below b13)
  replace BB := Lib.hid (below_then BB.out b13)
  clear b13
  obtain ⟨f0, f1⟩ := FF10.out
  go_wp2_with fail
  go_ret
  exact ⟨rfl, BB.out⟩
end Go.Proofs.YtefcdpkficojgaaDoor
