/- Contracts of Hex in the program and in the reference: both write two figures for each byte. -/
import Derived.Test.YtefcdpkficojgaaDoorMem
import Derived.StillTailTactics
import Derived.Deep.RegionHeld3
namespace Go.Proofs.YtefcdpkficojgaaDoor
open Go.RowKit

def figC (n : Nat) : UInt8 := if n < 10 then UInt8.ofNat (48 + n) else UInt8.ofNat (87 + n)
def hexL (l : List UInt8) : List UInt8 := l.flatMap fun c => [figC (c.toNat / 16), figC (c.toNat % 16)]
theorem hexL_length (l : List UInt8) : (hexL l).length = 2 * l.length := by
  induction l with
  | nil => rfl
  | cons c r ih => simp only [hexL, List.flatMap_cons, List.length_append, List.length_cons, List.length_nil] at ih ⊢; omega
theorem hexL_snoc (s : ByteArray) (k : Nat) (h : k < s.size) : hexL (s.data.toList.take (k + 1)) = hexL (s.data.toList.take k) ++ [figC (s[k].toNat / 16), figC (s[k].toNat % 16)] := by
  rw [List.take_succ_eq_append_getElem (by simpa using h)]
  simp only [hexL, List.flatMap_append, List.flatMap_cons, List.flatMap_nil, List.append_nil]
  rfl
theorem figC_toNat (n : Nat) (h : n < 16) : ((figC n).toNat : Int) = if (n : Int) < 10 then 48 + (n : Int) else 87 + (n : Int) := by
  unfold figC
  by_cases h1 : n < 10
  · have : (n : Int) < 10 := by omega
    simp only [h1, this, if_true, UInt8.toNat_ofNat']
    omega
  · have : ¬ (n : Int) < 10 := by omega
    simp only [h1, this, if_false, UInt8.toNat_ofNat']
    omega
theorem u8T : ElemT Tryd.prog 40 5 1 1 := ElemT.mk' (z := .int .u8 0) Tryd.underlying40 (by kernel_rfl) rfl (by decide)
theorem str_run {w : World} {A : Option Addr} {n : Nat} (c : Nat) {l : List UInt8} (rd : Rd w 1 A n (bv l)) : (convert 40 9 (.slice A n c)).run Tryd.prog w = .ok (.string ⟨l.toArray⟩) w :=
  run_str 40 5 9 Tryd.underlying40 Tryd.underlying5 Tryd.underlying9 c rd
theorem spec_l01Figure (x : Int) (w : World) (h0 : 0 ≤ x) (h1 : x < 16) : Calls Tryd.prog 157 #[.int .i64 x] w fun e w' => e = .returned (.int .u8 ((figC x.toNat).toNat : Int)) ∧ w = w' := by
  obtain ⟨n, rfl⟩ := Int.eq_ofNat_of_zero_le h0
  have hf := Lib.hid (figC_toNat n (by omega))
  by_cases h2 : (n : Int) < 10
  · go_enter Tryd.func157, Tryd.ntmps157
    go_wp2
    go_ret
    exact ⟨ret_int (by rw [Int.toNat_natCast, hf.out, if_pos h2]), rfl⟩
  · go_enter Tryd.func157, Tryd.ntmps157
    go_wp2
    go_ret
    exact ⟨ret_int (by (first | rw [hf.out, if_neg (by omega)] | rw [Int.toNat_natCast, hf.out, if_neg (by omega)]); omega), rfl⟩
/-- the figures of one byte -/
theorem byte_facts (c : UInt8) : IntKind.i64.wrap (c.toNat : Int) = (c.toNat : Int) ∧ IntKind.i64.wrap ((c.toNat : Int) / 16) = (c.toNat : Int) / 16 ∧ IntKind.i64.wrap ((c.toNat : Int) % 16) = (c.toNat : Int) % 16 ∧
    (c.toNat : Int) / 16 < 16 ∧ (c.toNat : Int) % 16 < 16 ∧ (c.toNat : Int).tmod 16 = (c.toNat : Int) % 16 := by
  have h := c.toNat_lt
  refine ⟨?_, ?_, ?_, by omega, by omega, Int.tmod_eq_emod_of_nonneg (by omega)⟩
  · rw [IntKind.wrap_i64]; omega
  · rw [IntKind.wrap_i64]; omega
  · rw [IntKind.wrap_i64]; omega
theorem fig_index (x : Int) (h0 : 0 ≤ x) (h1 : x < 16) (w : World) :
    (Instr.index 9 (.string ⟨#[48, 49, 50, 51, 52, 53, 54, 55, 56, 57, 97, 98, 99, 100, 101, 102]⟩) (.int .u8 x)).run Tryd.prog w = .ok (.int .u8 ((figC x.toNat).toNat : Int)) w := by
  have h : x = 0 ∨ x = 1 ∨ x = 2 ∨ x = 3 ∨ x = 4 ∨ x = 5 ∨ x = 6 ∨ x = 7 ∨ x = 8 ∨ x = 9 ∨ x = 10 ∨ x = 11 ∨ x = 12 ∨ x = 13 ∨ x = 14 ∨ x = 15 := by omega
  rcases h with rfl | rfl | rfl | rfl | rfl | rfl | rfl | rfl | rfl | rfl | rfl | rfl | rfl | rfl | rfl | rfl <;> (clear h0 h1; show _ = _; kernel_rfl)
theorem and15 (c : UInt8) : bits .and .u8 (c.toNat : Int) 15 = (c.toNat : Int) % 16 := by
  have h := c.toNat_lt
  show IntKind.u8.wrap ((BitVec.ofInt 8 (c.toNat : Int) &&& BitVec.ofInt 8 15).toNat : Int) = _
  rw [BitVec.toNat_and]
  have e : (BitVec.ofInt 8 (c.toNat : Int)).toNat = c.toNat := by rw [BitVec.ofInt_natCast, BitVec.toNat_ofNat]; omega
  have e2 : (BitVec.ofInt 8 15).toNat = 2 ^ 4 - 1 := by decide
  rw [e, e2, Nat.and_two_pow_sub_one_eq_mod, IntKind.wrap_u8]
  omega
end Go.Proofs.YtefcdpkficojgaaDoor
