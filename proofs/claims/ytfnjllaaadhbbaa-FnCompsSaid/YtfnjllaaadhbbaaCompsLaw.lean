/- The law over the parts of a graph. -/
import Derived.Test.YtfnjllaaadhbbaaCompsTold
import Derived.Test.YtfnjllaaadhbbaaCompsSame
import Derived.Test.YtfnjllaaadhbbaaCompsSpec
import Derived.Test.YtfnjllaaadhbbaaDrawGraph
import Derived.Test.YtfnjllaaadhbbaaLater
namespace Go.Proofs.Ytfnjllaaadhbbaa
open Go.RowKit
set_option linter.unusedVariables false

set_option maxRecDepth 100000 in
theorem open_code {H : Type} {enc : TypeId × Value → H} {w : World} {r : Reach} {b0 base : Nat} {spare : Nat → Bool} {held : Bool} {v : Value} {d : DataW H} {p : List MemPlace} (hv : Value.okWide Try.prog w r b0 22 v) (h : DataW.Trod enc Try.prog w base spare held 22 v d p) :
    ∃ code : List UInt8, ∃ A c, v = .slice A code.length c ∧ code.length ≤ c ∧ c ≤ maxLen ∧ Rd w 1 A code.length (bv code) := by
  obtain ⟨a0, len, cap, rfl⟩ := Go.WideShapes.okWide_slice Try.underlying22 hv
  obtain ⟨fuel, hf⟩ := h
  obtain ⟨u, l, hu, hr⟩ := open_cells (R := fun cs (z : UInt8) => cs = [Value.int .u8 (z.toNat : Int)] ∧ True) (by decide) Try.underlying22 (by kernel_rfl : Try.prog.cellsOf 5 = 1) hf (fun n cs y _ hy => by
    obtain ⟨z, e, _, wf⟩ := DataW.trod_int Try.underlying5 hy
    have hz : 0 ≤ z ∧ z < 256 := by
      simp [Lit.wf, IntKind.min, IntKind.max, IntKind.signed, IntKind.bits] at wf
      omega
    refine ⟨UInt8.ofNat z.toNat, ?_, trivial⟩
    rw [e]
    have : ((UInt8.ofNat z.toNat).toNat : Int) = z := by simp; omega
    rw [this])
  simp only [Value.cells, List.cons.injEq, and_true] at hu
  subst hu
  obtain ⟨A, c, e, h1, h2, rd⟩ := hr.rows.1
  refine ⟨l, A, c, e, h1, h2, ?_⟩
  have : bv l = l.flatMap (fun z => [Value.int .u8 (z.toNat : Int)]) := by
    unfold bv
    rw [List.map_eq_flatMap]
  rw [this]; exact rd
theorem big_yes (A : Option Addr) (l c : Nat) (w : World) (h : 1048576 < l) : Calls Try.prog 6 #[.slice A l c] w fun e w' => e = .returned (.bool true) ∧ w = w' := by
  have h1 : (1048576 : Int) < (l : Int) := by omega
  go_enter Try.func6, Try.ntmps6
  go_wp2_with fail
  go_ret
  exact ⟨rfl, rfl⟩
theorem big_no (A : Option Addr) (l c : Nat) (w : World) (h : ¬ 1048576 < l) : Calls Try.prog 6 #[.slice A l c] w fun e w' => e = .returned (.bool false) ∧ w = w' := by
  have h1 : ¬ (1048576 : Int) < (l : Int) := by omega
  go_enter Try.func6, Try.ntmps6
  go_wp2_with fail
  go_ret
  exact ⟨rfl, rfl⟩
theorem draw_is (A : Option Addr) (c : Nat) (code : List UInt8) (hl : code.length ≤ 1048576) (hcl : code.length ≤ c) (hc : c ≤ maxLen) : ∃ (n : Nat) (ars : List Arc2), n ≤ 7 ∧ ars.all (arcOk (n : Int)) = true ∧ ars.length ≤ 12 ∧
    ∀ w, Rd w 1 A code.length (bv code) → Calls Try.prog 7 #[.slice A code.length c] w fun e w' => ∃ v', e = .returned (.tuple #[.int .i64 (n : Int), v']) ∧ IsArcs w' v' ars ∧ Below w.heap.size w w' := by
  have h1 := graphN_bd code
  have h2 := graphA_ok code
  have h3 : ((graphN code).toNat : Int) = graphN code := by omega
  refine ⟨(graphN code).toNat, graphA code, by omega, by rw [h3]; exact h2.1, h2.2, fun w rd => ?_⟩
  rw [h3]
  exact spec_DrawGraph A c code w rd hl hcl hc
set_option maxHeartbeats 6400000 in
set_option maxRecDepth 100000 in
theorem law_Comps (v : Value) (code : List UInt8) (w : World) (o : ∃ A c, v = .slice A code.length c ∧ code.length ≤ c ∧ c ≤ maxLen ∧ Rd w 1 A code.length (bv code)) :
    Calls Try.prog 3 #[v] w fun e w' => e = .returned (.bool true) ∧ Below w.heap.size w w' := by
  obtain ⟨A, c, rfl, hl, hc, rd⟩ := o
  have RD := Lib.hid rd
  have hc' := hc
  unfold maxLen at hc'
  clear rd
  by_cases hb : 1048576 < code.length
  · go_enter Try.func3, Try.ntmps3
    go_wp2_with fail
    refine (big_yes A code.length c _ hb).mono ?_
    rintro e w1 ⟨rfl, rfl⟩
    go_wp2_with fail
    go_ret
    exact ⟨rfl, Below.refl _ _⟩
  obtain ⟨n, ars, hn, hok, hal, dg⟩ := draw_is A c code (by omega) hl hc
  have DG := Lib.hid dg
  have OK := Lib.hid hok
  have hgb : graphB (n : Int) ars = true := graph_yes (inB_yes (by omega) (by omega)) (by omega) hok
  have GB := Lib.hid hgb
  have TD := Lib.hid (comps_told hgb hok)
  clear dg hok hgb
  go_enter Try.func3, Try.ntmps3
  go_wp2_with fail
  refine (big_no A code.length c _ hb).mono ?_
  rintro e w0 ⟨rfl, rfl⟩
  go_wp2_with fail
  refine (DG.out _ RD.out).mono ?_
  rintro e w1 ⟨v1, rfl, i1, b1⟩
  have I1 := Lib.hid i1
  have B1 := Lib.hid b1
  clear i1 b1
  go_wp2_with fail
  refine (DG.out _ (RD.out.below B1.out)).mono ?_
  rintro e w2 ⟨v2, rfl, i2, b2⟩
  have I2 := Lib.hid i2
  have I12 := Lib.hid (I1.out.below b2)
  have B2 := Lib.hid (below_then B1.out b2)
  clear i2 b2
  go_wp2_with fail
  refine (impl_CompsOf n v1 ars _ I12.out (by omega) OK.out (by omega)).mono ?_
  rintro e w3 ⟨vc, rfl, b3, ic⟩
  have I13 := Lib.hid (I12.out.below b3)
  have I23 := Lib.hid (I2.out.below b3)
  have B3 := Lib.hid (below_then B2.out b3)
  have C3 := Lib.hid ic
  clear b3 ic
  go_wp2_with fail
  refine (spec_CompsOf n v2 ars _ I23.out (by omega) OK.out (by omega)).mono ?_
  rintro e w4 ⟨vs, rfl, os⟩
  have S4 := Lib.hid os.intss
  have I14 := Lib.hid (I13.out.below os.own)
  have C4 := Lib.hid (C3.out.below os.own)
  have B4 := Lib.hid (below_then B3.out os.own)
  clear os
  generalize hzz : (compsL n (warsh (arcR ars) n) (n + 1) (fun _ => false)).map numI = zss at *
  clear hzz
  go_wp2_with fail
  refine (laws_sameLists vc vs zss _ C4.out S4.out).mono ?_
  rintro e w5 ⟨rfl, q5⟩
  have I15 := Lib.hid (I14.out.below q5.below)
  have C5 := Lib.hid (C4.out.below q5.below)
  have B5 := Lib.hid (below_then B4.out q5.below)
  clear q5
  go_wp2_with fail
  refine (impl_GraphOk n v1 ars _ I15.out).mono ?_
  rintro e w6 ⟨rfl, b6⟩
  have I16 := Lib.hid (I15.out.below b6)
  have C6 := Lib.hid (C5.out.below b6)
  have B6 := Lib.hid (below_then B5.out b6)
  rw [GB.out]
  clear b6
  go_wp2_with fail
  go_loopw [8] (fun iv wr => ∃ a : Nat, a ≤ n ∧ iv = .int .i64 a ∧ Hid (Below w6.heap.size w6 wr)) (fun iv _ => n - (intOf iv).toNat)
  case atStart => exact ⟨0, Nat.zero_le _, rfl, Lib.hid (Below.refl _ _)⟩
  case round =>
    obtain ⟨a, ha, rfl, HA⟩ := hrel
    rename World => wq
    by_cases han : a < n
    · have h1a : (a : Int) < (n : Int) := by omega
      go_wp2_with fail
      go_loopw [9] (fun iv wr => ∃ b : Nat, b ≤ n ∧ iv = .int .i64 b ∧ Hid (Below w6.heap.size w6 wr)) (fun iv _ => n - (intOf iv).toNat)
      case atStart => exact ⟨0, Nat.zero_le _, rfl, HA⟩
      case round =>
        obtain ⟨b, hb2, rfl, HB⟩ := hrel
        by_cases hbn : b < n
        · have h1b : (b : Int) < (n : Int) := by omega
          obtain ⟨t, ht⟩ : ∃ t, reachB (n : Int) ars (a : Int) (b : Int) = t := ⟨_, rfl⟩
          obtain ⟨u, hu⟩ : ∃ u, reachB (n : Int) ars (b : Int) (a : Int) = u := ⟨_, rfl⟩
          obtain ⟨x, hx⟩ : ∃ x, compAt zss (a : Int) = x := ⟨_, rfl⟩
          obtain ⟨y, hy⟩ : ∃ y, compAt zss (b : Int) = y := ⟨_, rfl⟩
          have hx0 := TD.out.pos a han
          have hsm := TD.out.same a b han hbn
          have haf := TD.out.after a b han hbn
          rw [hx] at hx0 hsm haf
          rw [hy, ht, hu] at hsm
          rw [hy, ht, hu] at haf
          have HT := Lib.hid ht
          have HU := Lib.hid hu
          have HX := Lib.hid hx
          have HY := Lib.hid hy
          have HSM := Lib.hid hsm
          have HAF := Lib.hid haf
          clear ht hu hx hy hsm haf
          go_wp2_with fail
          refine (impl_Reaches n v1 ars a b _ (I16.out.below HB.out)).mono ?_
          rintro e x1 ⟨rfl, bx1⟩
          have X1 := Lib.hid (below_then HB.out bx1)
          rw [HT.out]
          clear bx1
          go_wp2_with fail
          refine (impl_Reaches n v1 ars b a _ (I16.out.below X1.out)).mono ?_
          rintro e x2 ⟨rfl, bx2⟩
          have X2 := Lib.hid (below_then X1.out bx2)
          rw [HU.out]
          clear bx2
          go_wp2_with fail
          refine (impl_CompAt vc zss a _ (C6.out.below X2.out)).mono ?_
          rintro e x3 ⟨rfl, rfl⟩
          rw [HX.out]
          go_wp2_with fail
          refine (impl_CompAt vc zss b _ (C6.out.below X2.out)).mono ?_
          rintro e x4 ⟨rfl, rfl⟩
          rw [HY.out]
          by_cases hab : a = b
          · subst hab
            have htu : t = u := by rw [← HT.out, ← HU.out]
            subst htu
            have hne : ((a : Int) != (a : Int)) = false := by simp
            cases t
            all_goals
              go_wp2_with fail
              go_roundw
              case rel => exact ⟨a + 1, by omega, by go_num, X2⟩
              case measure => simp [intOf]; omega
          · have hne : ((a : Int) != (b : Int)) = true := by simp; omega
            have he := HSM.out hab
            have haf := HAF.out
            cases t <;> cases u
            all_goals
              simp only [Bool.and_true, Bool.and_false] at he
              try have haf2 := haf rfl rfl
              clear haf
              go_wp2_with fail
              go_roundw
              case rel => exact ⟨b + 1, by omega, by go_num, X2⟩
              case measure => simp [intOf]; omega
        · go_wp2_with fail
          go_roundw
          case rel => exact ⟨a + 1, by omega, by go_num, HB⟩
          case measure => simp [intOf]; omega
    · have CQ := C6.out.below HA.out
      obtain ⟨Ac, cc, csx, rfl, hcc, hcm, rdc, hxc⟩ := CQ
      unfold maxLen at hcm
      have RC := Lib.hid rdc
      have XC := Lib.hid hxc
      have I1Q := Lib.hid (I16.out.below HA.out)
      have BQ := Lib.hid (below_then B6.out HA.out)
      clear rdc hxc
      go_wp2_with fail
      go_loopw [14] (fun iv wr => ∃ k : Nat, k ≤ zss.length ∧ iv = .int .i64 k ∧ Hid (Below wq.heap.size wq wr)) (fun iv _ => zss.length - (intOf iv).toNat)
      case atStart => exact ⟨0, Nat.zero_le _, rfl, Lib.hid (Below.refl _ _)⟩
      case round =>
        obtain ⟨k, hk, rfl, HK⟩ := hrel
        by_cases hlt : k < zss.length
        · obtain ⟨b, off, B, d, rfl, hcell, hd, hd2, hin⟩ := rd_ints (RC.out.below HK.out) (fun k hk => (by obtain ⟨u, h1, h2⟩ := XC.out k hk; exact ⟨u, h1, h2.below HK.out⟩)) hlt
          unfold maxLen at hd2
          have IK := Lib.hid hin
          obtain ⟨B1, d1, e1, _, _, rdk⟩ := hin
          injection e1 with e1 _ e2
          subst e1 e2
          obtain ⟨h0, hring⟩ := TD.out.ring k hlt
          obtain ⟨b', off', rfl, hcell'⟩ := rd_int rdk h0
          have h0k : (0 : Int) ≤ (k : Int) := by omega
          have h1k : (k : Int) < (zss.length : Int) := by omega
          have h1z : (0 : Int) < (zss[k].length : Int) := by omega
          have J1 := Lib.hid (I1Q.out.below HK.out)
          clear rdk
          cases hr : reachB (n : Int) ars zss[k][0] zss[k][0]
          all_goals
            rw [hr] at hring
            go_wp2_with fail
            refine wp_region_later (by kernel_rfl) (by kernel_rfl) ?_
            intro gw hgw hcw
            have HG := Lib.hid hgw
            have HC := Lib.hid hcw
            clear hgw hcw
            have f0 : ∀ n, (gw n).cell? ⟨b, off + k, none⟩ = some (.slice (some ⟨b', off', none⟩) zss[k].length d) := fun n => cell_keep (HG.out n) hcell
            have f1 : ∀ n, (gw n).cell? ⟨b', off' + 0, none⟩ = some (.int .i64 zss[k][0]) := fun n => cell_keep (HG.out n) hcell'
            have f2 : ∀ n, (gw n).cell? ⟨b', off', none⟩ = some (.int .i64 zss[k][0]) := fun n => cell_keep (HG.out n) hcell'
            have QC := Lib.hid (fun m => impl_Cyclic (n : Int) v1 (.slice (some ⟨b', off', none⟩) zss[k].length d) ars zss[k] (gw m) (J1.out.below (HG.out m)) (IK.out.below (HG.out m)))
            have QR := Lib.hid (fun m => impl_Reaches (n : Int) v1 ars zss[k][0] zss[k][0] (gw m) (J1.out.below (HG.out m)))
            have HRG := Lib.hid hring
            have HRR := Lib.hid hr
            clear hcell hcell' hring hr
            repeat (go_big_quiet_step ((first | (go_at_call 14; exact later_bool HC HRG.out (QC.out _)) | (go_at_call 12; exact later_bool HC HRR.out (QR.out _)))))
            refine wpQuiet_nil ?_
            intro _ hw'
            obtain ⟨nq, hw''⟩ := hw'
            subst hw''
            clear f0 f1 f2
            go_wp2_with fail
            go_roundw
            case rel => exact ⟨k + 1, by omega, by go_num, Lib.hid (below_then HK.out (HG.out _))⟩
            case measure => simp [intOf]; omega
        · go_wp2_with fail
          go_ret
          exact ⟨rfl, below_then BQ.out HK.out⟩
end Go.Proofs.Ytfnjllaaadhbbaa
