/- The drawn places. -/
import Derived.Test.YtbfiofakcgblaaaDoorPicks
import Derived.Test.YtbfiofakcgblaaaDoorInts
namespace Go.Proofs.YtbfiofakcgblaaaDoor
open Go.RowKit
set_option linter.unusedVariables false

def placesL (code : List UInt8) : Nat → Cur → List Int → List Int
  | 0, _, acc => acc
  | n + 1, k, acc => placesL code n (belowD code 10000 k).2 (acc ++ [(belowD code 10000 k).1])
def placesD (code : List UInt8) : List Int := placesL code 12 (byteD code (curNew code)).2 []
theorem placesL_ok (code : List UInt8) (n : Nat) : ∀ k acc, (∀ z ∈ acc, 0 ≤ z ∧ z < 10000) → (placesL code n k acc).length = acc.length + n ∧ ∀ z ∈ placesL code n k acc, 0 ≤ z ∧ z < 10000 := by
  induction n with
  | zero => intro k acc h; exact ⟨rfl, h⟩
  | succ n ih =>
    intro k acc h
    rw [placesL]
    have hb := belowD_bd code (n := 10000) (by decide) k
    obtain ⟨h1, h2⟩ := ih (belowD code 10000 k).2 (acc ++ [(belowD code 10000 k).1]) (fun z hz => by
      rcases List.mem_append.1 hz with hz | hz
      · exact h z hz
      · rw [List.mem_singleton.1 hz]; exact hb)
    exact ⟨by rw [h1, List.length_append]; simp; omega, h2⟩
theorem placesD_ok (code : List UInt8) : (placesD code).length = 12 ∧ ∀ z ∈ placesD code, 0 ≤ z ∧ z < 10000 := by
  have := placesL_ok code 12 (byteD code (curNew code)).2 [] (by simp)
  exact ⟨by rw [placesD, this.1]; rfl, this.2⟩
set_option maxHeartbeats 1600000 in
theorem spec_DrawPlaces (A : Option Addr) (c : Nat) (code : List UInt8) (w : World) (rd : Rd w 1 A code.length (bv code)) (hl : code.length ≤ 1048576) (hc : c ≤ maxLen) :
    Calls Tryd.prog 11 #[.slice A code.length c] w fun e w' => ∃ v', e = .returned v' ∧ IsInts w' v' (placesD code) ∧ Below w.heap.size w w' := by
  have RD := Lib.hid rd
  clear rd
  go_enter Tryd.func11, Tryd.ntmps11
  go_wp2_with fail
  refine (spec_l01New A c code _ RD.out hl hc).mono ?_
  rintro e w1 ⟨p, rfl, hp, k1, b1⟩
  have K1 := Lib.hid k1
  have B1 := Lib.hid b1
  clear k1 b1
  go_wp2_with fail
  refine (spec_l01Byte p A c code _ _ (RD.out.below B1.out) hl hc K1.out).mono ?_
  rintro e w2 ⟨rfl, k2, kp2⟩
  have K2 := Lib.hid k2
  have B2 := Lib.hid (B1.out.trans (kp2.below B1.out.size (fun b hb => by omega)))
  have HG : Hid (placesD code = placesL code 12 (byteD code (curNew code)).2 []) := Lib.hid rfl
  clear k2 kp2
  generalize hk2 : (byteD code (curNew code)).2 = ck at *
  clear hk2
  have OE : Hid (Own w (w2.alloc (.cells #[] 3)) 3 1 (.slice (some ⟨w2.heap.size, 0, none⟩) 0 0) 0 []) := Lib.hid (Own.lit B2.out _ 1 0 #[] (by simp [maxLen]) rfl)
  have KE := Lib.hid (K2.out.keep (Below.alloc (Below.refl w2.heap.size w2) (Nat.le_refl _) (.cells #[] 3)))
  go_wp2_with fail
  go_loopw [4, 5] (fun lv i wr => ∃ j : Nat, j ≤ 12 ∧ i = .int .i64 j ∧ ∃ A' c', lv = .slice A' j c' ∧ Hid (∃ (k : Cur) (acc : List Int), acc.length = j ∧ CurAt wr p A c code k ∧ Own w wr 3 1 (.slice A' j c') j (acc.map (Value.int .i64)) ∧ placesL code (12 - j) k acc = placesD code)) (fun _ i _ => 12 - (intOf i).toNat)
  case atStart => exact ⟨0, by omega, rfl, _, _, rfl, Lib.hid ⟨ck, [], rfl, KE.out, OE.out, HG.out.symm⟩⟩
  case round =>
    obtain ⟨j, hj, rfl, A', c', rfl, HR⟩ := hrel
    obtain ⟨k, acc, hacc, hk, own, hD⟩ := HR.out
    have CK := Lib.hid hk
    have OW := Lib.hid own
    have HD := Lib.hid hD
    have HA := Lib.hid hacc
    clear hk own hD hacc HR
    by_cases hlt : j < 12
    · have hjj : (j : Int) < 12 := by omega
      go_wp2_with fail
      refine (spec_l01Below 10000 p A c code k _ (RD.out.below OW.out.2) hl hc CK.out (by omega)).mono ?_
      rintro e w3 ⟨rfl, k3, kp3⟩
      have K3 := Lib.hid k3
      have O3 := Lib.hid (own_cur' OW.out CK.out kp3 (by decide) hp)
      have HD2 : Hid (placesL code (12 - (j + 1)) (belowD code 10000 k).2 (acc ++ [(belowD code 10000 k).1]) = placesD code) := Lib.hid (by
        rw [← HD.out, show 12 - j = (12 - (j + 1)) + 1 from by omega]; rfl)
      clear k3 kp3
      generalize hx3 : belowD code 10000 k = y3 at *
      clear hx3
      obtain ⟨x3, k3⟩ := y3
      simp only at K3 HD2
      go_wp2_with (at_builtin; refine wpList_app_keep rfl _ _ _ rfl intT O3.out _ 1 rfl rfl rfl (by simp [Value.oneCell']) (by simp only [maxLen]; omega) (by omega) ?_; intro v6 w6 own6 kp6)
      have RN : Hid (∃ A6 c6, v6 = .slice A6 (j + 1) c6 ∧ ∃ (k : Cur) (acc : List Int), acc.length = j + 1 ∧ CurAt w6 p A c code k ∧ Own w w6 3 1 (.slice A6 (j + 1) c6) (j + 1) (acc.map (Value.int .i64)) ∧ placesL code (12 - (j + 1)) k acc = placesD code) := Lib.hid (by
        obtain ⟨A6, c6, rfl, _⟩ := own6.slice
        refine ⟨A6, c6, rfl, k3, acc ++ [x3], by rw [List.length_append, HA.out]; rfl, ⟨(kp6.block p (lt_of_block K3.out.at') (sane_of K3.out.at' (by decide))).trans K3.out.at', K3.out.le⟩, ?_, HD2.out⟩
        rw [List.map_append]; exact own6)
      obtain ⟨A6, c6, rfl, hex⟩ := RN.out
      have R6 := Lib.hid hex
      clear own6 kp6 RN hex
      go_roundw
      case rel => exact ⟨j + 1, by omega, by go_num, A6, c6, rfl, R6⟩
      case measure => simp [intOf]; omega
    · have hjj : ¬ (j : Int) < 12 := by omega
      have EA : Hid (acc = placesD code) := Lib.hid (by rw [← HD.out, show 12 - j = 0 from by omega]; rfl)
      go_wp2_with fail
      go_ret
      refine ⟨_, rfl, ?_, OW.out.2⟩
      rw [← EA.out]
      have := OW.out
      rw [← HA.out] at this ⊢
      exact (IsIntsF.of_own this (Nat.le_refl _)).is
end Go.Proofs.YtbfiofakcgblaaaDoor
