/- Go's slices.Grow of nil and slices.Concat of two lists of strings. -/
import Derived.Test.YtkipkincggajcaaGrew
import Derived.Lib.AppendZeros
namespace Go.Proofs.Ytkipkincggajcaa
open Go.RowKit
set_option linter.unusedVariables false

set_option maxHeartbeats 800000 in
theorem slices_Grow_nil (n : Nat) (w : World) (hn : n ≤ 10000000) :
    Calls Try.prog 173 #[.slice none 0 0, .int .i64 (n : Int)] w fun e w' => ∃ A' c', e = .returned (.slice A' 0 c') ∧ OwnStrs w w' (.slice A' 0 c') [] := by
  by_cases h0 : n = 0
  · subst h0
    go_enter Try.func173, Try.ntmps173
    go_wp2_with fail
    go_ret
    exact ⟨_, _, rfl, OwnStrs.nil (Below.refl _ _)⟩
  · obtain ⟨i, z, hi, hz, hs, hbt, hzs⟩ := (strT).info
    obtain rfl : z = .string ByteArray.empty := by have := strZ; rw [hi] at this; simpa [hz] using this
    have hr := fun ty => Lib.run_append_nil_zeros (P := Try.prog) w 44 3 ty 9 i (.string ByteArray.empty) .i64 .i64 (strT).under Try.underlying3 hi hz n (by omega) (by omega) (by omega) (by rw [hbt]; omega)
    have hg1 := grownCap_ge w n 0 9
    have hg2 := grownCap_le_maxLen w n 0 9 (by unfold maxLen; omega)
    have hzc : (Value.string ByteArray.empty).cells.size = 1 := hzs
    unfold maxLen at hg2
    generalize hG : grownCap w n 0 9 = G at *
    have OW : Hid (OwnStrs w (w.drew.alloc (.cells (Builtin.zeroCells (Value.string ByteArray.empty).cells n ++ Builtin.zeroCells (Value.string ByteArray.empty).cells (G - n)) 9)) (.slice (some ⟨w.heap.size, 0, none⟩) 0 G) []) := Lib.hid
      ⟨⟨rfl, .inr ⟨_, G, _, rfl, Nat.le_refl _, heap_alloc_new w.drew _, Nat.zero_le _, by unfold maxLen; omega, by simp [size_zeroCells, hzc]; omega, by simp⟩⟩, Below.alloc (Below.refl _ _).drew (Nat.le_refl _) _⟩
    have HR := Lib.hid hr
    have h1 : 0 < n := by omega
    have h2 : (0 : Int) < (n : Int) := by omega
    have h3 : ¬ ((n : Int) < 0) := by omega
    have h4 : (0 : Int) ≤ (n : Int) := by omega
    have h5 : IntKind.i64.wrap ((n : Int) - 0) = (n : Int) := by rw [Int.sub_zero]; exact IntWalk.i64_in _ (by omega)
    clear hr hi hz hs hbt hzs hzc hG
    go_enter Try.func173, Try.ntmps173
    go_wp2_with (at_builtin; refine Lib.wpList_append_run _ rfl _ _ _ _ rfl _ _ rfl rfl _ _ (HR.out _) ?_)
    go_ret
    exact ⟨_, _, rfl, by exact OW.out⟩
def catN (n1 n2 k : Nat) : Nat := if k = 0 then 0 else if k = 1 then n1 else n1 + n2
def catL (ss tt : List ByteArray) (k : Nat) : List ByteArray := if k = 0 then [] else if k = 1 then ss else ss ++ tt
set_option maxHeartbeats 1600000 in
theorem slices_Concat2 (g : Nat) (A1 A2 : Option Addr) (c1 c2 : Nat) (ss tt : List ByteArray) (w : World) (d0 : w.cell? ⟨g, 0, none⟩ = some (.slice A1 ss.length c1)) (d1 : w.cell? ⟨g, 1, none⟩ = some (.slice A2 tt.length c2))
    (h1 : IsStrs w (.slice A1 ss.length c1) ss) (h2 : IsStrs w (.slice A2 tt.length c2) tt) (b1 : ss.length ≤ 1048576) (b2 : tt.length ≤ 1048576) :
    Calls Try.prog 124 #[.slice (some ⟨g, 0, none⟩) 2 2] w fun e w' => ∃ A' c', e = .returned (.slice A' (ss ++ tt).length c') ∧ OwnStrs w w' (.slice A' (ss ++ tt).length c') (ss ++ tt) := by
  have H1 := Lib.hid h1
  have H2 := Lib.hid h2
  have D0 := Lib.hid d0
  have D1 := Lib.hid d1
  have n0 : catN ss.length tt.length 0 = 0 := rfl
  have n1 : catN ss.length tt.length 1 = ss.length := rfl
  have n2 : catN ss.length tt.length 2 = ss.length + tt.length := rfl
  have N0 := Lib.hid n0
  have N1 := Lib.hid n1
  have N2 := Lib.hid n2
  clear h1 h2 n0 n1 n2
  go_enter Try.func124, Try.ntmps124
  go_wp2_with fail
  go_loop [3, 11] (fun sz i => ∃ k : Nat, k ≤ 2 ∧ i = .int .i64 k ∧ sz = .int .i64 (catN ss.length tt.length k : Nat)) (fun _ i => 2 - (intOf i).toNat)
  case atStart => exact ⟨0, by omega, rfl, rfl⟩
  case round =>
    obtain ⟨k, hk, rfl, rfl⟩ := hrel
    rcases (show k = 0 ∨ k = 1 ∨ k = 2 by omega) with rfl | rfl | rfl
    · rw [N0.out]
      go_wp2_with fail
      go_round
      case rel => exact ⟨1, by omega, rfl, by rw [N1.out]⟩
      case measure => simp [intOf]
    · rw [N1.out]
      go_wp2_with fail
      go_round
      case rel => exact ⟨2, by omega, rfl, by rw [N2.out]; rfl⟩
      case measure => simp [intOf]
    · rw [N2.out]
      go_wp2_with fail
      refine (slices_Grow_nil (ss.length + tt.length) _ (by omega)).mono ?_
      rintro e w1 ⟨A3, c3, rfl, own3⟩
      have O3 := Lib.hid own3
      clear own3
      go_wp2_with fail
      go_loopw [6, 27] (fun lv i wr => ∃ k : Nat, k ≤ 2 ∧ i = .int .i64 k ∧ ∃ A' c', lv = .slice A' (catL ss tt k).length c' ∧ Hid (OwnStrs w wr (.slice A' (catL ss tt k).length c') (catL ss tt k))) (fun _ i _ => 2 - (intOf i).toNat)
      case atStart => exact ⟨0, by omega, rfl, _, _, rfl, Lib.hid O3.out⟩
      case round =>
        obtain ⟨k, hk, rfl, A', c', rfl, HO⟩ := hrel
        have e0 := cell_keep HO.out.2 D0.out
        have e1 := cell_keep HO.out.2 D1.out
        rcases (show k = 0 ∨ k = 1 ∨ k = 2 by omega) with rfl | rfl | rfl
        · have I1 := Lib.hid (H1.out.below HO.out.2)
          go_wp2_with (at_builtin; refine wpList_appG rfl _ _ _ rfl strT rfl HO.out A1 ss.length c1 (ss.map Value.string) rfl (by obtain ⟨_, _, e, _, _, rd⟩ := I1.out; injection e with e1 e2 e3; subst e1; exact rd) (by intro u hu; obtain ⟨s, _, rfl⟩ := List.mem_map.1 hu; rfl) (by simp only [catL, maxLen, List.length_nil, if_true]; omega) (by simp only [catL, List.length_nil, if_true]; omega) ?_; intro v3 w3 own3 gr3; have O4 : Hid (OwnStrs w w3 v3 (catL ss tt 1)) := Lib.hid (by simpa [OwnStrs, catL] using own3); obtain ⟨A4, c4, rfl, _⟩ := O4.out.slice; clear own3 gr3)
          go_roundw
          case rel => exact ⟨1, by omega, rfl, A4, c4, rfl, O4⟩
          case measure => simp [intOf]
        · have I2 := Lib.hid (H2.out.below HO.out.2)
          go_wp2_with (at_builtin; refine wpList_appG rfl _ _ _ rfl strT rfl HO.out A2 tt.length c2 (tt.map Value.string) rfl (by obtain ⟨_, _, e, _, _, rd⟩ := I2.out; injection e with e1 e2 e3; subst e1; exact rd) (by intro u hu; obtain ⟨s, _, rfl⟩ := List.mem_map.1 hu; rfl) (by show ss.length + tt.length ≤ maxLen; unfold maxLen; omega) (by show (ss.length + tt.length) * 16 ≤ _; omega) ?_; intro v3 w3 own3 gr3; have O4 : Hid (OwnStrs w w3 v3 (catL ss tt 2)) := Lib.hid (by simpa [OwnStrs, catL] using own3); obtain ⟨A4, c4, rfl, _⟩ := O4.out.slice; clear own3 gr3)
          go_roundw
          case rel => exact ⟨2, by omega, rfl, A4, c4, rfl, O4⟩
          case measure => simp [intOf]
        · go_wp2_with fail
          go_ret
          exact ⟨_, _, rfl, HO.out⟩
end Go.Proofs.Ytkipkincggajcaa
