/- The law over Lex. -/
import Derived.Test.YtbbmoinaakbnbaaDoorSigns
namespace Go.Proofs.YtbbmoinaakbnbaaDoor
open Go.RowKit
set_option linter.unusedVariables false

theorem lexS_len (s : ByteArray) (n : Nat) : ∀ i acc, s.size - i ≤ n → (lexS s i acc).1.length ≤ acc.length + n := by
  induction n with
  | zero => intro i acc h; rw [lexS_end (by omega)]; simp
  | succ n ih =>
    intro i acc h
    by_cases h1 : i < s.size
    · cases hb : blankB s[i] with
      | true => rw [lexS_blank h1 hb]; have := ih (i + 1) acc (by omega); omega
      | false =>
        cases ho : (signP s i h1).2.2 with
        | true =>
          rw [lexS_sign h1 hb ho]
          have hbd := signP_bd s i h1
          have := ih (signP s i h1).2.1 (acc ++ [⟨(signP s i h1).1, s.extract i (signP s i h1).2.1, i⟩]) (by omega)
          simp at this
          omega
        | false => rw [lexS_bad h1 hb ho]; simp
    · rw [lexS_end h1]; simp
theorem lexR_len (s : ByteArray) : (lexR s).1.length ≤ 6000 := by
  by_cases h : 6000 < s.size
  · rw [lexR_long h]; simp
  · rw [lexR_short h]; have := lexS_len s 6000 0 [] (by omega); simpa using this
/-- the two cells of a fault -/
def Box2 (w : World) (g : Nat) (a c : Int) : Prop := w.cell? ⟨g, 0, none⟩ = some (.int .i64 a) ∧ w.cell? ⟨g, 1, none⟩ = some (.int .i64 c)
theorem Box2.below {w w' : World} {g : Nat} {a c : Int} (h : Box2 w g a c) (hb : Below w.heap.size w w') : Box2 w' g a c := ⟨cell_keep hb h.1, cell_keep hb h.2⟩
theorem Box2.lit {W : World} {a c : Int} {e : TypeId} : Box2 (W.alloc (.cells #[.int .i64 a, .int .i64 c] e)) W.heap.size a c := by
  have h := heap_alloc_new W (.cells #[.int .i64 a, .int .i64 c] e)
  exact ⟨by rw [World.cell?]; simp only [h]; rfl, by rw [World.cell?]; simp only [h]; rfl⟩
set_option maxHeartbeats 1600000 in
theorem law_Lex (s : ByteArray) (w : World) (hs : s.size ≤ maxLen) (TB0 : TabW w) :
    Calls Tryd.prog 4 #[.string s] w fun e w' => e = .returned (.bool true) ∧ Below w.heap.size w w' := by
  have TB := Lib.hid TB0
  clear TB0
  by_cases h1 : (1048576 : Int) < (s.size : Int)
  · go_enter Tryd.func4, Tryd.ntmps4
    go_wp2_with fail
    go_ret
    exact ⟨rfl, Below.refl _ _⟩
  have HL := lexR_len s
  obtain ⟨R, hR⟩ : ∃ R, lexR s = R := ⟨_, rfl⟩
  obtain ⟨l, f1, f2⟩ := R
  have HR := Lib.hid hR
  have hl : l.length ≤ 6000 := by rw [hR] at HL; exact HL
  clear HL hR
  go_enter Tryd.func4, Tryd.ntmps4
  go_wp2_with fail
  refine (spec_Lex s _).mono ?_
  rw [HR.out]
  rintro e w1 ⟨v1, rfl, own1⟩
  have O1 := Lib.hid own1
  clear own1
  have BA : Hid (Below w.heap.size w (w1.alloc (.cells #[.int .i64 f1, .int .i64 f2] 35))) := Lib.hid (O1.out.own.alloc O1.out.own.size _)
  have BX : Hid (Box2 (w1.alloc (.cells #[.int .i64 f1, .int .i64 f2] 35)) w1.heap.size f1 f2) := Lib.hid Box2.lit
  have OA := Lib.hid (O1.out.below (Below.alloc (Below.refl w1.heap.size w1) (Nat.le_refl _) (.cells #[.int .i64 f1, .int .i64 f2] 35)))
  obtain ⟨WA, hWA⟩ : ∃ W, w1.alloc (.cells #[.int .i64 f1, .int .i64 f2] 35) = W := ⟨_, rfl⟩
  have HWA := Lib.hid hWA
  rw [hWA] at BA BX OA
  clear hWA
  generalize hg1 : w1.heap.size = g1 at *
  go_wp2_with fail
  rw [HWA.out]
  refine (impl_Lex s _ (TB.out.below BA.out)).mono ?_
  rw [HR.out]
  rintro e w2 ⟨v2, rfl, own2⟩
  have O2 := Lib.hid own2
  clear own2
  have AB : Hid (Below WA.heap.size WA (w2.alloc (.cells #[.int .i64 f1, .int .i64 f2] 35))) := Lib.hid (O2.out.own.alloc O2.out.own.size _)
  have BY : Hid (Box2 (w2.alloc (.cells #[.int .i64 f1, .int .i64 f2] 35)) w2.heap.size f1 f2) := Lib.hid Box2.lit
  have OB := Lib.hid (O2.out.below (Below.alloc (Below.refl w2.heap.size w2) (Nat.le_refl _) (.cells #[.int .i64 f1, .int .i64 f2] 35)))
  obtain ⟨WB, hWB⟩ : ∃ W, w2.alloc (.cells #[.int .i64 f1, .int .i64 f2] 35) = W := ⟨_, rfl⟩
  have HWB := Lib.hid hWB
  rw [hWB] at AB BY OB
  clear hWB
  generalize hg2 : w2.heap.size = g2 at *
  go_wp2_with fail
  rw [HWB.out]
  refine (laws_eqSignS v2 v1 l _ OB.out.is (OA.out.is.below AB.out)).mono ?_
  rintro e w3 ⟨rfl, b3⟩
  have B3 := Lib.hid b3
  clear b3
  obtain ⟨p0, p1⟩ := BX.out.below (below_then AB.out B3.out)
  obtain ⟨r0, r1⟩ := BY.out.below B3.out
  go_wp2_with fail
  refine (laws_eqFault f1 f2 _).mono ?_
  rintro e w4 ⟨rfl, b4⟩
  have O4 := Lib.hid ((OB.out.below B3.out).below b4)
  clear b4 p0 p1 r0 r1 OB B3
  go_wp2_with fail
  refine (laws_markSignS v2 l 1 WA _ O4.out (by omega) (by omega) (by omega)).mono ?_
  rintro e w5 ⟨rfl, own5⟩
  have O5 := Lib.hid own5
  clear own5 O4
  go_wp2_with fail
  have hml := marksG_length l.length 1
  refine (laws_heldSignS v2 l.length 1 _ O5.out.is (by omega) (by omega) (by omega)).mono ?_
  rintro e w6 ⟨rfl, b6⟩
  have O6 := Lib.hid (O5.out.below b6)
  clear b6 O5
  go_wp2_with fail
  refine (impl_Lex s _ ((TB.out.below BA.out).below O6.out.own)).mono ?_
  rw [HR.out]
  rintro e w7 ⟨v7, rfl, own7⟩
  have O7 := Lib.hid own7
  clear own7
  go_wp2_with fail
  have B7 : Hid (Below w6.heap.size w6 (w7.alloc (.cells #[.int .i64 f1, .int .i64 f2] 35))) := Lib.hid (O7.out.own.alloc O7.out.own.size _)
  have BZ : Hid (Box2 (w7.alloc (.cells #[.int .i64 f1, .int .i64 f2] 35)) w7.heap.size f1 f2) := Lib.hid Box2.lit
  have OC := Lib.hid (O7.out.below (Below.alloc (Below.refl w7.heap.size w7) (Nat.le_refl _) (.cells #[.int .i64 f1, .int .i64 f2] 35)))
  obtain ⟨WC, hWC⟩ : ∃ W, w7.alloc (.cells #[.int .i64 f1, .int .i64 f2] 35) = W := ⟨_, rfl⟩
  have HWC := Lib.hid hWC
  rw [hWC] at B7 BZ OC
  clear hWC
  generalize hg3 : w7.heap.size = g3 at *
  have AC := Lib.hid (below_then O6.out.own B7.out)
  have OD := Lib.hid (O6.out.below B7.out)
  rw [HWC.out]
  refine (laws_eqSignS v7 v1 l _ OC.out.is (OA.out.is.below AC.out)).mono ?_
  rintro e w8 ⟨rfl, b8⟩
  have B8 := Lib.hid b8
  clear b8
  obtain ⟨p0, p1⟩ := BX.out.below (below_then AC.out B8.out)
  obtain ⟨r0, r1⟩ := BZ.out.below B8.out
  go_wp2_with fail
  refine (laws_eqFault f1 f2 _).mono ?_
  rintro e w9 ⟨rfl, b9⟩
  have O9 := Lib.hid ((OD.out.below B8.out).below b9)
  clear b9 p0 p1 r0 r1 OD B8
  have q9 : (((1 + 3 * l.length : Nat) : Int) != ((1 + 3 * l.length : Nat) : Int)) = false := by simp
  go_wp2_with fail
  refine (laws_heldSignS v2 l.length 1 _ O9.out.is (by omega) (by omega) (by omega)).mono ?_
  rintro e w10 ⟨rfl, b10⟩
  have O10 := Lib.hid (O9.out.below b10)
  clear b10 O9
  go_wp2_with fail
  go_ret
  exact ⟨rfl, below_then BA.out O10.out.own⟩
end Go.Proofs.YtbbmoinaakbnbaaDoor
