/- The law FnSigns. -/
import Derived.Test.YtbbmoinaakbnbaaDoorSignP
import Derived.Test.YtbbmoinaakbnbaaDoorTermDrw
import Derived.Test.YtbbmoinaakbnbaaDoorTxtLaw
import Derived.Test.YtbbmoinaakbnbaaDoorLexLaw
import Derived.Deep.QuietTactic
import Derived.BigQuiet
namespace Go.Proofs.YtbbmoinaakbnbaaDoor
open Go.RowKit
set_option linter.unusedVariables false

theorem wrap_of {n : Int} (h0 : -9223372036854775808 ≤ n) (h1 : n ≤ 9223372036854775807) : IntKind.i64.wrap n = n := by
  rw [IntKind.wrap_i64]; omega
theorem quiet_pure {P : Program} {f : FuncId} {args : Array Value} {w : World} {n : Nat} {v : Value} (h : Calls P f args (w.drewN n) fun e w' => e = .returned v ∧ w.drewN n = w') : Calls P f args (w.drewN n) fun e w'' => e = .returned v ∧ ∃ m, w'' = w.drewN m :=
  Calls.quiet_of (h.mono fun _ _ ⟨he, hw⟩ => ⟨he, by subst hw; exact Qt.refl _⟩)
theorem spT_take {l : List Sg} {j : Nat} (h : j < l.length) : spT (l.take (j + 1)) = spT (l.take j) ++ (32 :: 10 :: l[j].t.data.toList) := by
  have key : ∀ (a : List Sg) (g : Sg), spT (a ++ [g]) = spT a ++ (32 :: 10 :: g.t.data.toList) := by
    intro a g
    induction a with
    | nil => simp [spT]
    | cons x r ih => simp [spT, ih]
  rw [List.take_succ_eq_append_getElem h, key]
theorem spT_size (l : List Sg) (j : Nat) : (spT (l.take j)).length ≤ (spT l).length := by
  have key : ∀ (a b : List Sg), (spT a).length ≤ (spT (a ++ b)).length := by
    intro a b
    induction a with
    | nil => simp [spT]
    | cons x r ih => simp only [spT, List.cons_append, List.length_cons, List.length_append]; omega
  have := key (l.take j) (l.drop j)
  rwa [List.take_append_drop] at this
set_option maxHeartbeats 6400000 in
set_option maxRecDepth 100000 in
theorem law_Signs (v : Value) (code : List UInt8) (w : World) (o : ∃ A c, v = .slice A code.length c ∧ code.length ≤ c ∧ c ≤ maxLen ∧ Rd w 1 A code.length (bv code)) (tab : TabW w) :
    Calls Tryd.prog 5 #[v] w fun e w' => e = .returned (.bool true) ∧ Below w.heap.size w w' := by
  obtain ⟨A, c, rfl, hl, hc, rd⟩ := o
  have RD := Lib.hid rd
  have TB := Lib.hid tab
  clear rd tab
  by_cases hb : 1048576 < code.length
  · go_enter Tryd.func5, Tryd.ntmps5
    go_wp2_with fail
    refine (big_yes A code.length c _ hb).mono ?_
    rintro e w1 ⟨rfl, rfl⟩
    go_wp2_with fail
    go_ret
    exact ⟨rfl, Below.refl _ _⟩
  have HOK := termD_ok code 3 (curNew code)
  generalize hT : (termD code 3 (curNew code)).1 = T at *
  obtain ⟨l, L1, n0, n1, n2, L2, L3, LG⟩ := signs_of HOK
  have HT := Lib.hid hT
  have X1 := Lib.hid L1
  have X2 := Lib.hid L2
  have X3 := Lib.hid L3
  have XG := Lib.hid LG
  have XT : Hid ((⟨(txtR T).toArray⟩ : ByteArray) = ⟨(txtT T).toArray⟩) := Lib.hid (by rw [txtR_yes (okT_le (by omega) HOK)])
  clear hT L1 L2 L3 LG HOK
  go_enter Tryd.func5, Tryd.ntmps5
  go_wp2_with fail
  refine (big_no A code.length c _ hb).mono ?_
  rintro e w0 ⟨rfl, rfl⟩
  go_wp2_with fail
  refine (spec_DrawTerm A c code _ RD.out (by omega) hc).mono ?_
  rw [HT.out]
  rintro e w1 ⟨k1, n1', s1, A1, m1, c1, rfl, t1, b1⟩
  have T1 := Lib.hid t1.any
  have B1 := Lib.hid b1
  clear t1 b1
  go_wp2_with fail
  refine (spec_TermText T k1 n1' s1 A1 m1 c1 _ T1.out).mono ?_
  rw [XT.out]
  rintro e w2 ⟨rfl, b2⟩
  have B2 := Lib.hid (below_then B1.out b2)
  clear b2 T1 B1
  obtain ⟨S0, hS0⟩ : ∃ S : ByteArray, ⟨(txtT T).toArray⟩ = S := ⟨_, rfl⟩
  rw [hS0]
  have XS := Lib.hid hS0
  clear hS0
  go_wp2_with fail
  refine (impl_Lex S0 _ (TB.out.below B2.out)).mono ?_
  have xl : lexR S0 = (l, 0, 0) := by rw [← XS.out]; exact X1.out
  rw [xl]
  rintro e w3 ⟨v3, rfl, own3⟩
  have O3 := Lib.hid own3
  clear own3 xl
  have B4 : Hid (Below w.heap.size w (w3.alloc (.cells #[.int .i64 0, .int .i64 0] 35))) := Lib.hid (below_then B2.out (O3.out.own.alloc O3.out.own.size _))
  have BX : Hid (Box2 (w3.alloc (.cells #[.int .i64 0, .int .i64 0] 35)) w3.heap.size 0 0) := Lib.hid Box2.lit
  have I4 := Lib.hid (O3.out.below (Below.alloc (Below.refl w3.heap.size w3) (Nat.le_refl _) (.cells #[.int .i64 0, .int .i64 0] 35))).is
  clear O3
  obtain ⟨W4, hW4⟩ : ∃ W, w3.alloc (.cells #[.int .i64 0, .int .i64 0] 35) = W := ⟨_, rfl⟩
  have HW4 := Lib.hid hW4
  rw [hW4] at B4 BX I4
  clear hW4
  obtain ⟨A4, c4, e4, h5, h6, rd4⟩ := I4.out
  subst e4
  have RD4 := Lib.hid rd4
  clear rd4
  go_wp2_with fail
  rw [HW4.out]
  clear HW4
  go_loopw [6, 7] (fun tv iv wr => ∃ j : Nat, j ≤ l.length ∧ iv = .int .i64 j ∧ tv = .string ⟨(spT (l.take j)).toArray⟩ ∧ Hid (Below W4.heap.size W4 wr)) (fun _ i _ => l.length - (intOf i).toNat)
  case atStart => exact ⟨0, Nat.zero_le _, rfl, rfl, Lib.hid (Below.refl _ _)⟩
  case round =>
    obtain ⟨j, hj, rfl, rfl, HB⟩ := hrel
    by_cases hlt : j < l.length
    · have HS := Lib.hid (spT_take hlt)
      obtain ⟨b, off, rfl, d0, d1, d2⟩ := rd_sg (RD4.out.below HB.out) hlt
      have h0m : (0 : Int) ≤ (j : Int) := by omega
      have h1m : (j : Int) < (l.length : Int) := by omega
      obtain ⟨P, hP⟩ : ∃ P : ByteArray, ⟨(spT (l.take j)).toArray⟩ = P := ⟨_, rfl⟩
      have XP := Lib.hid hP
      rw [hP]
      clear hP
      generalize l[j] = x at *
      obtain ⟨xa, xt, xc⟩ := x
      simp only at d0 d1 d2
      have hps : P.size + 2 + xt.size ≤ 1000 := by
        have e1 := spT_size l (j + 1)
        rw [HS.out] at e1
        have e2 : P.size = (spT (l.take j)).length := by rw [← XP.out]; exact str_size _
        simp only [List.length_append, List.length_cons, size_list] at e1
        omega
      go_wp2_with fail
      go_roundw
      case rel => exact ⟨j + 1, by omega, by go_num, by rw [HS.out, ← XP.out]; congr 1; apply str_ext; simp, HB⟩
      case measure => simp [intOf]; omega
    · have e : j = l.length := by omega
      subst e
      rw [List.take_length]
      obtain ⟨Q, hQ⟩ : ∃ Q : ByteArray, ⟨(spT l).toArray⟩ = Q := ⟨_, rfl⟩
      rw [hQ]
      have XQ := Lib.hid hQ
      have hqs : Q.size = (spT l).length := by rw [← hQ]; exact str_size _
      have hqb : Q.size ≤ 1000 := by omega
      clear hQ
      have ql : lexR Q = (spS l 0, 0, 0) := by rw [← XQ.out]; exact X2.out
      have TB1 := Lib.hid ((TB.out.below B4.out).below HB.out)
      go_wp2_with fail
      refine (impl_Lex Q _ TB1.out).mono ?_
      rw [ql]
      rintro e w5 ⟨v5, rfl, own5⟩
      have O5 := Lib.hid own5
      clear own5 ql
      have B6 : Hid (Below wr.heap.size wr (w5.alloc (.cells #[.int .i64 0, .int .i64 0] 35))) := Lib.hid (O5.out.own.alloc O5.out.own.size _)
      have BY : Hid (Box2 (w5.alloc (.cells #[.int .i64 0, .int .i64 0] 35)) w5.heap.size 0 0) := Lib.hid Box2.lit
      have I6 := Lib.hid (O5.out.below (Below.alloc (Below.refl w5.heap.size w5) (Nat.le_refl _) (.cells #[.int .i64 0, .int .i64 0] 35))).is
      clear O5
      obtain ⟨W6, hW6⟩ : ∃ W, w5.alloc (.cells #[.int .i64 0, .int .i64 0] 35) = W := ⟨_, rfl⟩
      have HW6 := Lib.hid hW6
      rw [hW6] at B6 BY I6
      clear hW6
      obtain ⟨A6, c6, e6, h7, h8, rd6⟩ := I6.out
      subst e6
      have RD6 := Lib.hid rd6
      clear rd6
      go_wp2_with fail
      rw [HW6.out]
      clear HW6
      obtain ⟨G, hG⟩ : ∃ G : ByteArray, Q ++ ⟨#[32, 37]⟩ = G := ⟨_, rfl⟩
      rw [hG]
      have hGl : (lexR G).2 = (2, (Q.size : Int) + 1) := by
        have e1 : G = (⟨(spT l ++ [32, 37]).toArray⟩ : ByteArray) := by rw [← hG, ← XQ.out]; apply str_ext; simp
        rw [e1, X3.out, hqs]; rfl
      obtain ⟨R9, f9⟩ : ∃ R, lexR G = R := ⟨_, rfl⟩
      rw [f9] at hGl
      obtain ⟨l9, m9⟩ := R9
      simp only at hGl
      subst hGl
      clear hG
      have TB2 := TB1.out.below B6.out
      refine (impl_Lex G _ TB2).mono ?_
      rw [f9]
      rintro e w7 ⟨v7, rfl, own7⟩
      have O7 := Lib.hid own7
      clear own7 f9 hqs
      have B8 : Hid (Below W6.heap.size W6 (w7.alloc (.cells #[.int .i64 2, .int .i64 ((Q.size : Int) + 1)] 35))) := Lib.hid (O7.out.own.alloc O7.out.own.size _)
      have BZ : Box2 (w7.alloc (.cells #[.int .i64 2, .int .i64 ((Q.size : Int) + 1)] 35)) w7.heap.size 2 ((Q.size : Int) + 1) := Box2.lit
      clear O7
      obtain ⟨p0, p1⟩ := BX.out.below (below_then HB.out (below_then B6.out B8.out))
      obtain ⟨q0, q1⟩ := BY.out.below B8.out
      obtain ⟨r0, r1⟩ := BZ
      have gl0 : ((l.length : Int) != (l.length : Int)) = false := by simp
      have gl1 : ((l.length : Int) == 0) = false := by rw [beq_eq_false_iff_ne]; omega
      have gl2 : ((Q.size : Int) + 1 == (Q.size : Int) + 1) = true := by simp
      have hsl := spS_length l 0
      rw [hsl] at h7
      have hsl' := Lib.hid hsl
      rw [hsl]
      clear hsl
      go_wp2_with fail
      have B9 := Lib.hid (below_then HB.out (below_then B6.out B8.out))
      have B7 := Lib.hid B8.out
      clear p0 p1 q0 q1 r0 r1 B8 TB2 BX BY gl0 gl1 gl2
      generalize w7.alloc (.cells #[.int .i64 2, .int .i64 ((Q.size : Int) + 1)] 35) = W8 at *
      have R4 := Lib.hid (RD4.out.below B9.out)
      have R6 := Lib.hid (RD6.out.below B7.out)
      have BW := Lib.hid (below_then B4.out B9.out)
      clear I4 I6 RD4 RD6 TB1 HB B6 B7 B9
      go_loopw [12] (fun iv wx => ∃ j : Nat, j ≤ l.length ∧ iv = .int .i64 j ∧ Hid (Below W8.heap.size W8 wx)) (fun i _ => l.length - (intOf i).toNat)
      case atStart => exact ⟨0, Nat.zero_le _, rfl, Lib.hid (Below.refl _ _)⟩
      case round =>
        obtain ⟨j, hj, rfl, HB⟩ := hrel
        by_cases hlt : j < l.length
        · have hlt2 : j < (spS l 0).length := by rw [hsl'.out]; exact hlt
          obtain ⟨b, off, rfl, d0, d1, d2⟩ := rd_sg (R4.out.below HB.out) hlt
          obtain ⟨b', off', rfl, e0, e1, e2⟩ := rd_sg (R6.out.below HB.out) hlt2
          obtain ⟨a0, a1⟩ := spS_at l 0 j hlt hlt2
          have gd := XG.out (spS l 0)[j] (List.getElem_mem hlt2)
          generalize (spS l 0)[j] = x at *
          generalize l[j] = y at *
          obtain ⟨xa, xt, xc⟩ := x
          obtain ⟨ya, yt, yc⟩ := y
          simp only at a0 a1 d0 d1 d2 e0 e1 e2
          subst a0 a1
          obtain ⟨tok, hr1, hr2⟩ := gd
          rw [XQ.out] at hr1 hr2
          simp only at hr1 hr2 tok
          have h0m : (0 : Int) ≤ (j : Int) := by omega
          have h1m : (j : Int) < (l.length : Int) := by omega
          have q0 : (xa != xa) = false := by simp
          have q1 := str_eq xt xt
          rw [decide_eq_true rfl] at q1
          have q2 : ((xc : Int) + (xt.size : Int)).toNat = xc + xt.size := by omega
          have q4 : decide ((xc : Int) < 0) = false := decide_no (by omega)
          have q5 : IntKind.i64.wrap ((xc : Int) + (xt.size : Int)) = (xc : Int) + (xt.size : Int) := wrap_of (by omega) (by omega)
          have q6 : decide ((Q.size : Int) < (xc : Int) + (xt.size : Int)) = false := decide_no (by omega)
          have KM : Hid (∀ w', xa = 3 → Calls Tryd.prog 19 #[.string xt] w' fun e w'' => e = .returned (.bool true) ∧ w' = w'') := Lib.hid (fun w' h => by
            have hm := impl_IsMark xt w'
            rw [Lib.toList_data] at hm
            have : isMarkL xt.data.toList = true := by
              rcases tok with ⟨h1, _⟩ | ⟨h1, _⟩ | ⟨_, h2⟩
              · omega
              · omega
              · exact h2
            rwa [this] at hm)
          have BN : Hid (Below wr.heap.size wr (wr.alloc (.cells #[.int .i64 xa, .string xt, .int .i64 (xc : Int)] 46))) := Lib.hid (Below.alloc (Below.refl _ _) (Nat.le_refl _) _)
          have d0' := cell_keep BN.out d0
          have d1' := cell_keep BN.out d1
          have z0 : (wr.alloc (.cells #[.int .i64 xa, .string xt, .int .i64 (xc : Int)] 46)).cell? ⟨wr.heap.size, 0, none⟩ = some (.int .i64 xa) := by rw [World.cell?_alloc_new]; rfl
          have z1 : (wr.alloc (.cells #[.int .i64 xa, .string xt, .int .i64 (xc : Int)] 46)).cell? ⟨wr.heap.size, 1, none⟩ = some (.string xt) := by rw [World.cell?_alloc_new]; rfl
          have z2 : (wr.alloc (.cells #[.int .i64 xa, .string xt, .int .i64 (xc : Int)] 46)).cell? ⟨wr.heap.size, 2, none⟩ = some (.int .i64 (xc : Int)) := by rw [World.cell?_alloc_new]; rfl
          clear tok
          by_cases h3 : xa = 3
          · subst h3
            have K3 : Hid (∀ w', Calls Tryd.prog 19 #[.string xt] w' fun e w'' => e = .returned (.bool true) ∧ w' = w'') := Lib.hid (fun w' => KM.out w' rfl)
            clear KM
            go_wp2_with fail
            generalize wr.alloc (.cells #[.int .i64 3, .string xt, .int .i64 (xc : Int)] 46) = WN at *
            go_quiet ((first | (go_at_call 19; exact quiet_pure (K3.out _)) | fail))
            go_wp2_with fail
            go_roundw
            case rel => exact ⟨j + 1, by omega, by go_num, Lib.hid (below_drewN (below_then HB.out BN.out) _)⟩
            case measure => simp [intOf]; omega
          · have q3 : (xa == 3) = false := by simpa using h3
            go_wp2_with fail
            generalize wr.alloc (.cells #[.int .i64 xa, .string xt, .int .i64 (xc : Int)] 46) = WN at *
            go_quiet ((first | fail))
            go_wp2_with fail
            go_roundw
            case rel => exact ⟨j + 1, by omega, by go_num, Lib.hid (below_drewN (below_then HB.out BN.out) _)⟩
            case measure => simp [intOf]; omega
        · have HN : Hid (Calls Tryd.prog 20 #[.string ⟨#[120, 49]⟩] wr fun e w' => e = .returned (.bool true) ∧ wr = w') := Lib.hid (impl_IsName ⟨#[120, 49]⟩ wr)
          have HW : Hid (Calls Tryd.prog 20 #[.string ⟨#[119, 104, 105, 108, 101]⟩] wr fun e w' => e = .returned (.bool false) ∧ wr = w') := Lib.hid (impl_IsName ⟨#[119, 104, 105, 108, 101]⟩ wr)
          go_wp2_with fail
          refine HN.out.mono ?_
          rintro e w9 ⟨rfl, rfl⟩
          go_wp2_with fail
          refine HW.out.mono ?_
          rintro e w9 ⟨rfl, rfl⟩
          go_wp2_with fail
          go_ret
          exact ⟨rfl, below_then BW.out HB.out⟩
end Go.Proofs.YtbbmoinaakbnbaaDoor
