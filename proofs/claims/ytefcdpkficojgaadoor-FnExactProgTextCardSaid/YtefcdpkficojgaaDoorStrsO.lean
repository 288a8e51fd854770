/- Copying a row of texts: the copy is the call's own. -/
import Derived.Test.YtefcdpkficojgaaDoorMark
import Derived.Test.YtefcdpkficojgaaDoorFlat
namespace Go.Proofs.YtefcdpkficojgaaDoor
open Go.RowKit
set_option linter.unusedVariables false

theorem str_flat (l : List ByteArray) : l.flatMap (fun s => [Value.string s]) = l.map Value.string := by
  induction l with
  | nil => rfl
  | cons x r ih => rw [List.flatMap_cons, ih]; rfl
set_option maxHeartbeats 400000 in
theorem laws_toStringSO (v : Value) (ss : List ByteArray) (w : World) (h : IsStrs w v ss) (h1 : ss.length ≤ 1048576) :
    Calls Tryd.prog 91 #[v] w fun e w' => ∃ A' c', e = .returned (.slice A' ss.length c') ∧ OwnStrs w w' (.slice A' ss.length c') ss := by
  obtain ⟨A, c, rfl, h2, h3, rd⟩ := h
  unfold maxLen at h3
  have RD := Lib.hid rd
  clear rd
  go_enter Tryd.func91, Tryd.ntmps91
  go_wp2_with (at_make; refine wpList_mkN rfl _ _ 44 rfl strT (fun s : ByteArray => [Value.string s]) (fun _ => rfl) ByteArray.empty _ strZ rfl (Below.refl _ _) _ _ _ _ ss.length rfl rfl rfl rfl (by omega) (by simp only [maxLen]; omega) ?_; intro w1 own1 hlt1 hg1)
  go_loopw [4] (fun i wr => ∃ k : Nat, k ≤ ss.length ∧ i = .int .i64 k ∧ Own w wr 9 1 (.slice (some ⟨w.heap.size, 0, none⟩) ss.length ss.length) ss.length ((part ss ByteArray.empty k).map Value.string)) (fun i _ => ss.length - (intOf i).toNat)
  case atStart => exact ⟨0, Nat.zero_le _, rfl, by rw [part_zero, ← str_flat]; exact own1⟩
  case round =>
    obtain ⟨k, hk, rfl, own⟩ := hrel
    have OW := Lib.hid own
    clear own own1 hlt1 hg1
    by_cases hlt : k < ss.length
    · obtain ⟨b, off, rfl, hc0⟩ := rd_str (RD.out.below OW.out.2) hlt
      have h0k : (0 : Int) ≤ (k : Int) := by omega
      have hd0 := OW.out.cellAt (j := k) (by omega) (by rw [List.getElem?_map, part_get _ _ hlt]; rfl)
      have hf0 := OW.out.freeAt k
      have OS := OW.out.set k (.string ss[k])
      rw [← List.map_set, part_set _ _ hlt] at OS
      have O2 := Lib.hid OS
      clear OS
      go_wp2_with fail
      go_roundw
      case rel => exact ⟨k + 1, by omega, by go_num, O2.out⟩
      case measure => simp [intOf]; omega
    · have OE := OW.out
      rw [part_all _ _ (by omega)] at OE
      have OB := Lib.hid OE
      clear OE OW
      go_wp2_with fail
      go_ret
      exact ⟨_, _, rfl, OB.out⟩
end Go.Proofs.YtefcdpkficojgaaDoor
