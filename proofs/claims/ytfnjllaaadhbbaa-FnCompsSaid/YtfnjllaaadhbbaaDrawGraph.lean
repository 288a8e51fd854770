/- The drawn graph. -/
import Derived.Test.YtfnjllaaadhbbaaDraw
import Derived.Test.YtfnjllaaadhbbaaGraph
namespace Go.Proofs.Ytfnjllaaadhbbaa
open Go.RowKit
set_option linter.unusedVariables false

def arcsD (code : List UInt8) (n : Int) : Nat → Nat → Cur → List Arc2 → List Arc2
  | 0, _, _, acc => acc
  | fuel + 1, i, k, acc =>
    if (i : Int) < (belowD code 12 k).1 then
      arcsD code n fuel (i + 1) (belowD code n (belowD code n (belowD code 12 k).2).2).2 (acc ++ [((belowD code n (belowD code 12 k).2).1, (belowD code n (belowD code n (belowD code 12 k).2).2).1)])
    else acc
theorem arcsD_more (code : List UInt8) (n : Int) (fuel i : Nat) (k : Cur) (acc : List Arc2) (h : (i : Int) < (belowD code 12 k).1) : arcsD code n (fuel + 1) i k acc = arcsD code n fuel (i + 1) (belowD code n (belowD code n (belowD code 12 k).2).2).2 (acc ++ [((belowD code n (belowD code 12 k).2).1, (belowD code n (belowD code n (belowD code 12 k).2).2).1)]) := by
  rw [arcsD, if_pos h]
theorem arcsD_end (code : List UInt8) (n : Int) (fuel i : Nat) (k : Cur) (acc : List Arc2) (h : ¬ (i : Int) < (belowD code 12 k).1) : arcsD code n (fuel + 1) i k acc = acc := by
  rw [arcsD, if_neg h]
theorem arcsD_ok (code : List UInt8) {n : Int} (hn : 0 < n) (fuel : Nat) : ∀ (i : Nat) (k : Cur) (acc : List Arc2), acc.all (arcOk n) = true → acc.length ≤ i → i + fuel ≤ 12 → (arcsD code n fuel i k acc).all (arcOk n) = true ∧ (arcsD code n fuel i k acc).length ≤ 12 := by
  induction fuel with
  | zero => intro i k acc h1 h2 h3; exact ⟨h1, by rw [arcsD]; omega⟩
  | succ f ih =>
    intro i k acc h1 h2 h3
    by_cases h : (i : Int) < (belowD code 12 k).1
    · rw [arcsD_more _ _ _ _ _ _ h]
      refine ih _ _ _ ?_ (by simp; omega) (by omega)
      rw [List.all_append, h1]
      have b1 := belowD_bd code hn (belowD code 12 k).2
      have b2 := belowD_bd code hn (belowD code n (belowD code 12 k).2).2
      simp only [List.all_cons, List.all_nil, Bool.and_true, Bool.true_and, arcOk]
      rw [inB_yes b1.1 (by omega), inB_yes b2.1 (by omega)]; rfl
    · rw [arcsD_end _ _ _ _ _ _ h]
      exact ⟨h1, by omega⟩
def graphN (code : List UInt8) : Int := 1 + (belowD code 7 (curNew code)).1
def graphA (code : List UInt8) : List Arc2 := arcsD code (graphN code) 12 0 (belowD code 7 (curNew code)).2 []
theorem graphN_bd (code : List UInt8) : 1 ≤ graphN code ∧ graphN code ≤ 7 := by
  have := belowD_bd code (n := 7) (by decide) (curNew code)
  unfold graphN; omega
theorem graphA_ok (code : List UInt8) : (graphA code).all (arcOk (graphN code)) = true ∧ (graphA code).length ≤ 12 :=
  arcsD_ok code (by have := graphN_bd code; omega) 12 0 _ [] (by simp) (by simp) (by omega)
theorem own_cur {w0 w w' : World} {e : TypeId} {sz n : Nat} {v : Value} {xs : List Value} {p : Nat} {A : Option Addr} {c : Nat} {code : List UInt8} {k : Cur} (h : Own w0 w e sz v n xs) (hc : CurAt w p A c code k) (hk : Keep (fun b => b ≠ p) w w') (he : 60 ≠ e) (hp : w0.heap.size ≤ p) : Own w0 w' e sz v n xs := by
  refine ⟨⟨h.1.1, ?_⟩, h.2.trans (hk.below h.2.size (fun b hb => by omega))⟩
  rcases h.1.2 with h' | ⟨g, cap, cur, rfl, hg, hh, r⟩
  · exact .inl h'
  · refine .inr ⟨g, cap, cur, rfl, hg, (hk.block g (lt_of_block hh) ?_).trans hh, r⟩
    intro e1
    subst e1
    rw [hc.at'] at hh
    injection hh with hh
    injection hh with _ hh
    exact he hh
theorem arc_own_is {w0 w : World} {A : Option Addr} {c : Nat} {ars : List Arc2} (h : Own w0 w 47 2 (.slice A ars.length c) ars.length (ars.flatMap arcF)) : IsArcs w (.slice A ars.length c) ars := IsRows.of_own h
set_option maxHeartbeats 1600000 in
theorem spec_DrawGraph (A : Option Addr) (c : Nat) (code : List UInt8) (w : World) (rd : Rd w 1 A code.length (bv code)) (hl : code.length ≤ 1048576) (hcl : code.length ≤ c) (hc : c ≤ maxLen) :
    Calls Try.prog 7 #[.slice A code.length c] w fun e w' => ∃ v', e = .returned (.tuple #[.int .i64 (graphN code), v']) ∧ IsArcs w' v' (graphA code) ∧ Below w.heap.size w w' := by
  have RD := Lib.hid rd
  have hgn := graphN_bd code
  clear rd
  go_enter Try.func7, Try.ntmps7
  go_wp2_with fail
  refine (spec_l01New A c code _ RD.out hl hc).mono ?_
  rintro e w1 ⟨p, rfl, hp, k1, b1⟩
  have K1 := Lib.hid k1
  have B1 := Lib.hid b1
  clear k1 b1
  go_wp2_with fail
  refine (spec_l01Below 7 p A c code _ _ (RD.out.below B1.out) hl hc K1.out (by omega)).mono ?_
  rintro e w2 ⟨rfl, k2, kp2⟩
  have K2 := Lib.hid k2
  have B2 := Lib.hid (B1.out.trans (kp2.below B1.out.size (fun b hb => by omega)))
  have hnn : 1 + (belowD code 7 (curNew code)).1 = graphN code := rfl
  have hb7 := belowD_bd code (n := 7) (by decide) (curNew code)
  have HG : Hid (graphA code = arcsD code (graphN code) 12 0 (belowD code 7 (curNew code)).2 []) := Lib.hid rfl
  clear k2 kp2
  generalize hk2 : (belowD code 7 (curNew code)).2 = ck at *
  generalize hk1 : (belowD code 7 (curNew code)).1 = x7 at *
  clear hk1 hk2
  generalize hgc : graphN code = n at *
  have HGC := Lib.hid hgc
  clear hgc
  have hn0 : 0 < n := by omega
  have OE : Hid (Own w (w2.alloc (.cells #[] 47)) 47 2 (.slice (some ⟨w2.heap.size, 0, none⟩) 0 0) 0 []) := Lib.hid (Own.lit B2.out _ 2 0 #[] (by simp [maxLen]) rfl)
  have KE := Lib.hid (K2.out.keep (Below.alloc (Below.refl w2.heap.size w2) (Nat.le_refl _) (.cells #[] 47)))
  go_wp2_with fail
  clear hnn
  go_loopw [6, 7] (fun lv i wr => ∃ j : Nat, j ≤ 11 ∧ i = .int .i64 j ∧ ∃ A' c', lv = .slice A' j c' ∧ Hid (∃ (k : Cur) (acc : List Arc2), acc.length = j ∧ CurAt wr p A c code k ∧ Own w wr 47 2 (.slice A' j c') j (acc.flatMap arcF) ∧ arcsD code n (12 - j) j k acc = graphA code)) (fun _ i _ => 12 - (intOf i).toNat)
  case atStart => exact ⟨0, by omega, rfl, _, _, rfl, Lib.hid ⟨ck, [], rfl, KE.out, OE.out, HG.out.symm⟩⟩
  case round =>
    obtain ⟨j, hj, rfl, A', c', rfl, HR⟩ := hrel
    obtain ⟨k, acc, hacc, hk, own, hD⟩ := HR.out
    have CK := Lib.hid hk
    have OW := Lib.hid own
    have HD := Lib.hid hD
    have HA := Lib.hid hacc
    have hb12 := belowD_bd code (n := 12) (by decide) k
    clear hk own hD hacc HR
    go_wp2_with fail
    refine (spec_l01Below 12 p A c code k _ (RD.out.below OW.out.2) hl hc CK.out (by omega)).mono ?_
    rintro e w3 ⟨rfl, k3, kp3⟩
    have K3 := Lib.hid k3
    have O3 := Lib.hid (own_cur OW.out CK.out kp3 (by decide) hp)
    clear k3 kp3
    by_cases hlt : (j : Int) < (belowD code 12 k).1
    · have HD2 := Lib.hid (arcsD_more code n (11 - j) j k acc hlt)
      have hf12 : 12 - j = (11 - j) + 1 := by omega
      have HF := Lib.hid hf12
      have hj10 : j ≤ 10 := by omega
      clear hf12
      generalize hx3 : belowD code 12 k = y3 at *
      clear hx3
      obtain ⟨x3, k3⟩ := y3
      simp only at hlt hb12 K3 HD2
      have b1 := belowD_bd code hn0 k3
      go_wp2_with fail
      refine (spec_l01Below n p A c code k3 _ (RD.out.below O3.out.2) hl hc K3.out (by omega)).mono ?_
      rintro e w4 ⟨rfl, k4, kp4⟩
      have K4 := Lib.hid k4
      have O4 := Lib.hid (own_cur O3.out K3.out kp4 (by decide) hp)
      clear k4 kp4
      generalize hx4 : belowD code n k3 = y4 at *
      clear hx4
      obtain ⟨x4, k4⟩ := y4
      simp only at K4 HD2
      go_wp2_with fail
      refine (spec_l01Below n p A c code k4 _ (RD.out.below O4.out.2) hl hc K4.out (by omega)).mono ?_
      rintro e w5 ⟨rfl, k5, kp5⟩
      have K5 := Lib.hid k5
      have O5 := Lib.hid (own_cur O4.out K4.out kp5 (by decide) hp)
      clear k5 kp5
      generalize hx5 : belowD code n k4 = y5 at *
      clear hx5
      obtain ⟨x5, k5⟩ := y5
      simp only at K5 HD2
      go_wp2_with (at_builtin; refine wpList_app_keep rfl _ _ _ rfl arcT O5.out _ 1 rfl rfl rfl (by simp [Value.oneCell']) (by simp only [maxLen]; omega) (by omega) ?_; intro v6 w6 own6 kp6)
      have RN : Hid (∃ A6 c6, v6 = .slice A6 (j + 1) c6 ∧ ∃ (k : Cur) (acc : List Arc2), acc.length = j + 1 ∧ CurAt w6 p A c code k ∧ Own w w6 47 2 (.slice A6 (j + 1) c6) (j + 1) (acc.flatMap arcF) ∧ arcsD code n (12 - (j + 1)) (j + 1) k acc = graphA code) := Lib.hid (by
        obtain ⟨A6, c6, rfl, _⟩ := own6.slice
        refine ⟨A6, c6, rfl, k5, acc ++ [(x4, x5)], by rw [List.length_append, HA.out]; rfl, ⟨(kp6.block p (lt_of_block K5.out.at') (sane_of K5.out.at' (by decide))).trans K5.out.at', K5.out.le⟩, ?_, ?_⟩
        · rw [List.flatMap_append]; exact own6
        · rw [show 12 - (j + 1) = 11 - j from by omega, ← HD2.out, ← HF.out]; exact HD.out)
      obtain ⟨A6, c6, rfl, hex⟩ := RN.out
      have R6 := Lib.hid hex
      clear own6 kp6 RN hex
      go_roundw
      case rel => exact ⟨j + 1, by omega, by go_num, A6, c6, rfl, R6⟩
      case measure => simp [intOf]; omega
    · have HD2 := Lib.hid (arcsD_end code n (11 - j) j k acc hlt)
      have EA : Hid (acc = graphA code) := Lib.hid (by rw [← HD.out, show 12 - j = (11 - j) + 1 from by omega]; exact HD2.out.symm)
      have FIN : Hid (IsArcs w3 (.slice A' j c') (graphA code)) := Lib.hid (by
        rw [← EA.out, ← HA.out]
        have := O3.out
        rw [← HA.out] at this
        exact arc_own_is this)
      generalize hx3 : belowD code 12 k = y3 at *
      clear hx3
      obtain ⟨x3, k3⟩ := y3
      simp only at hlt
      go_wp2_with fail
      go_ret2
      refine ⟨_, ?_, FIN.out, O3.out.2⟩
      rw [HGC.out]; rfl
end Go.Proofs.Ytfnjllaaadhbbaa
