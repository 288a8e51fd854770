/- Contracts of Unhex in the program and in the reference: both read two figures for each byte. -/
import Derived.Test.YtbfiofakcgblaaaDoorHex
import Derived.Lib.Bytealg
namespace Go.Proofs.YtbfiofakcgblaaaDoor
open Go.RowKit

def valN (n : Int) : Int := if 48 ≤ n ∧ n ≤ 57 then n - 48 else if 97 ≤ n ∧ n ≤ 102 then n - 87 else -1
theorem valN_lt (n : Int) : valN n < 16 := by unfold valN; split <;> (try split) <;> omega
theorem index_val : ∀ n, n < 256 → Lib.indexByte [48, 49, 50, 51, 52, 53, 54, 55, 56, 57, 97, 98, 99, 100, 101, 102] (UInt8.ofNat n) = valN (n : Int) := by decide +kernel
def unhexL : List UInt8 → Option (List UInt8)
  | [] => some []
  | [_] => none
  | a :: b :: r => if valN (a.toNat : Int) < 0 ∨ valN (b.toNat : Int) < 0 then none else (unhexL r).map (UInt8.ofNat (16 * valN (a.toNat : Int) + valN (b.toNat : Int)).toNat :: ·)
def unhexR (l : List UInt8) : List UInt8 × Bool := if l.length % 2 ≠ 0 ∨ 40000 < l.length then ([], false) else match unhexL l with | some d => (d, true) | none => ([], false)

theorem unhex_step (l : List UInt8) (k : Nat) (d : List UInt8) (h : unhexL (l.take (2 * k)) = some d) (r : List UInt8) (e : l.drop (2 * k) = r) (hk : 2 * k ≤ l.length) : unhexL l = (unhexL r).map (d ++ ·) := by
  induction k generalizing l d with
  | zero => simp [unhexL] at h; subst h; simp at e; subst e; cases unhexL l <;> simp
  | succ k ih =>
    match l with
    | [] => simp at hk
    | [a] => simp at hk; omega
    | a :: b :: t =>
      have e2 : 2 * (k + 1) = 2 * k + 1 + 1 := by omega
      rw [e2] at h e
      simp only [List.take_succ_cons, unhexL, List.drop_succ_cons] at h e
      split at h
      · cases h
      · rename_i hno
        cases hu : unhexL (t.take (2 * k)) with
        | none => rw [hu] at h; simp at h
        | some d' =>
          rw [hu] at h
          simp only [Option.map_some, Option.some.injEq] at h
          subst h
          have := ih t d' hu e (by simp at hk; omega)
          rw [unhexL, if_neg hno, this]
          cases unhexL r <;> simp
theorem drop_pair (s : ByteArray) (k : Nat) (h : k + 1 < s.size) : s.data.toList.drop k = s[k] :: s[k + 1] :: s.data.toList.drop (k + 2) := by
  have h1 : k < s.data.toList.length := by simpa using (by omega : k < s.size)
  have h2 : k + 1 < s.data.toList.length := by simpa using h
  rw [List.drop_eq_getElem_cons h1, List.drop_eq_getElem_cons h2]
  rfl
/-- one pair more -/
theorem unhex_more (s : ByteArray) (k : Nat) (d : List UInt8) (h : unhexL (s.data.toList.take (2 * k)) = some d) (hk : 2 * k + 1 < s.size) (h1 : 0 ≤ valN ((s[2 * k]).toNat : Int)) (h2 : 0 ≤ valN ((s[2 * k + 1]).toNat : Int)) :
    unhexL (s.data.toList.take (2 * (k + 1))) = some (d ++ [UInt8.ofNat (16 * valN ((s[2 * k]).toNat : Int) + valN ((s[2 * k + 1]).toNat : Int)).toNat]) := by
  have hl : 2 * k + 1 < s.data.toList.length := by simpa using hk
  have e : (s.data.toList.take (2 * (k + 1))).drop (2 * k) = [s[2 * k], s[2 * k + 1]] := by
    rw [List.drop_take, drop_pair s (2 * k) hk, show 2 * (k + 1) - 2 * k = 2 from by omega]
    simp
  rw [unhex_step (s.data.toList.take (2 * (k + 1))) k d (by rw [List.take_take, show min (2 * k) (2 * (k + 1)) = 2 * k from by omega]; exact h) _ e (by simp; omega)]
  simp only [unhexL]
  rw [if_neg (by omega)]
  simp
theorem unhex_none (s : ByteArray) (k : Nat) (d : List UInt8) (h : unhexL (s.data.toList.take (2 * k)) = some d) (hk : 2 * k + 1 < s.size) (h1 : valN ((s[2 * k]).toNat : Int) < 0 ∨ valN ((s[2 * k + 1]).toNat : Int) < 0) : unhexL s.data.toList = none := by
  rw [unhex_step s.data.toList k d h _ (drop_pair s (2 * k) hk) (by simp; omega), unhexL, if_pos h1]
  rfl
theorem unhexR_some {l d : List UInt8} (h1 : l.length % 2 = 0) (h2 : l.length ≤ 40000) (h : unhexL l = some d) : unhexR l = (d, true) := by
  unfold unhexR; rw [if_neg (by omega), h]
theorem unhexR_none {l : List UInt8} (h1 : l.length % 2 = 0) (h2 : l.length ≤ 40000) (h : unhexL l = none) : unhexR l = ([], false) := by
  unfold unhexR; rw [if_neg (by omega), h]
theorem unhexR_no {l : List UInt8} (h : l.length % 2 ≠ 0 ∨ 40000 < l.length) : unhexR l = ([], false) := by
  unfold unhexR; rw [if_pos h]
theorem or16 (a b : Int) (h1 : 0 ≤ a) (h2 : a < 16) (h3 : 0 ≤ b) (h4 : b < 16) : bits BinOp.or IntKind.i64 (a * 16) b % 256 = ((UInt8.ofNat (16 * a + b).toNat).toNat : Int) := by
  obtain ⟨a, rfl⟩ := Int.eq_ofNat_of_zero_le h1
  obtain ⟨b, rfl⟩ := Int.eq_ofNat_of_zero_le h3
  have h : ∀ a : Nat, a < 16 → ∀ b : Nat, b < 16 → bits BinOp.or IntKind.i64 ((a : Int) * 16) (b : Int) % 256 = ((UInt8.ofNat (16 * (a : Int) + (b : Int)).toNat).toNat : Int) := by decide +kernel
  exact h a (by omega) b (by omega)
theorem add16 (a b : Int) (h1 : 0 ≤ a) (h2 : a < 16) (h3 : 0 ≤ b) (h4 : b < 16) : (16 * a + b) = ((UInt8.ofNat (16 * a + b).toNat).toNat : Int) := by
  rw [UInt8.toNat_ofNat']; omega
theorem lite_IndexByte (s : ByteArray) (c : Int) (w : World) : Calls Tryd.prog 22 #[.string s, .int .u8 c] w fun e w' => e = .returned (.int .i64 (Lib.indexByte s.data.toList c.toNat.toUInt8)) ∧ w = w' := by
  go_enter Tryd.func22, Tryd.ntmps22
  go_wp2
  rw [run_callFunc_extern Tryd.func24 (by kernel_rfl) (by kernel_rfl) (by kernel_rfl) (e := Extern.BytealgIndexByte.indexByte) (by kernel_rfl), Lib.run_indexByteString]
  simp only [Result.andThen]
  rw [Oper.upon_value]
  go_wp2
  go_ret
  exact ⟨rfl, rfl⟩
theorem strings_IndexByte (s : ByteArray) (c : Int) (w : World) : Calls Tryd.prog 20 #[.string s, .int .u8 c] w fun e w' => e = .returned (.int .i64 (Lib.indexByte s.data.toList c.toNat.toUInt8)) ∧ w = w' := by
  go_enter Tryd.func20, Tryd.ntmps20
  go_wp2_with (go_at_call 22; refine (lite_IndexByte _ _ _).mono ?_; rintro e w' ⟨rfl, rfl⟩)
  go_ret
  exact ⟨rfl, rfl⟩
theorem index_fig (c : UInt8) (w : World) : Calls Tryd.prog 20 #[.string ⟨#[48, 49, 50, 51, 52, 53, 54, 55, 56, 57, 97, 98, 99, 100, 101, 102]⟩, .int .u8 (c.toNat : Int)] w fun e w' => e = .returned (.int .i64 (valN (c.toNat : Int))) ∧ w = w' := by
  refine (strings_IndexByte _ _ w).mono ?_
  rintro e w' ⟨rfl, rfl⟩
  refine ⟨ret_int ?_, rfl⟩
  exact index_val c.toNat c.toNat_lt
set_option maxHeartbeats 400000 in
set_option maxRecDepth 100000 in
theorem impl_Unhex (s : ByteArray) (w : World) (hs : s.size ≤ 1048576) : Calls Tryd.prog 13 #[.string s] w fun e w' => e = .returned (.tuple #[.string ⟨(unhexR s.data.toList).1.toArray⟩, .bool (unhexR s.data.toList).2]) ∧ Below w.heap.size w w' := by
  have hl := size_list s
  by_cases g1 : s.size % 2 = 0
  · have q1 : (((s.size : Int) % 2) != 0) = false := by simp; omega
    by_cases g2 : 40000 < s.size
    · have F := Lib.hid (unhexR_no (l := s.data.toList) (by omega))
      clear hl
      go_enter Tryd.func13, Tryd.ntmps13
      go_wp2_with fail
      go_ret2
      exact ⟨by rw [F.out]; rfl, Below.refl _ _⟩
    · go_enter Tryd.func13, Tryd.ntmps13
      go_wp2_with (at_make; refine wpList_mk0 rfl _ _ 27 rfl u8T (Below.refl _ _) _ _ _ (s.size / 2) rfl rfl (by simp) (by omega) (by simp only [maxLen]; omega) ?_; intro A1 w1 own1)
      go_loopw [4, 5] (fun v i wr => ∃ (k : Nat) (d : List UInt8), 2 * k ≤ s.size ∧ i = .int .i64 ((2 * k : Nat) : Int) ∧ Own w wr 5 1 v k (bv d) ∧ Hid (unhexL (s.data.toList.take (2 * k)) = some d)) (fun _ i _ => s.size - (intOf i).toNat)
      case atStart => exact ⟨0, [], Nat.zero_le _, rfl, own1, Lib.hid rfl⟩
      case round =>
        obtain ⟨k, d, hk, rfl, own, HU⟩ := hrel
        have OW := Lib.hid own
        have HL := Lib.hid hl
        clear own own1 hl
        by_cases hlt : 2 * k < s.size
        · have hlt2 : 2 * k + 1 < s.size := by omega
          have HM := Lib.hid (unhex_more s k d HU.out hlt2)
          have HN := Lib.hid (unhex_none s k d HU.out hlt2)
          have v1 := valN_lt ((s[2 * k]).toNat : Int)
          have v2 := valN_lt ((s[2 * k + 1]).toNat : Int)
          go_wp2_with fail
          refine (index_fig (s[2 * k]) _).mono ?_
          rintro e w' ⟨rfl, rfl⟩
          go_wp2_with fail
          refine (index_fig (s[2 * k + 1]) _).mono ?_
          rintro e w' ⟨rfl, rfl⟩
          by_cases c1 : valN ((s[2 * k]).toNat : Int) < 0
          · go_wp2_with fail
            go_ret2
            exact ⟨by rw [unhexR_none (by rw [HL.out]; exact g1) (by rw [HL.out]; omega) (HN.out (.inl c1))]; rfl, OW.out.2⟩
          by_cases c2 : valN ((s[2 * k + 1]).toNat : Int) < 0
          · go_wp2_with fail
            go_ret2
            exact ⟨by rw [unhexR_none (by rw [HL.out]; exact g1) (by rw [HL.out]; omega) (HN.out (.inr c2))]; rfl, OW.out.2⟩
          go_wp2_with (at_builtin; refine wpList_app_new rfl _ _ _ rfl u8T OW.out _ 1 rfl rfl rfl (by simp [Value.oneCell']) (by simp only [maxLen]; omega) (by omega) ?_; intro v3 w3 own3)
          go_roundw
          case rel =>
            refine ⟨k + 1, _, by omega, by go_num, ?_, Lib.hid (HM.out c1 c2)⟩
            rw [bv_append, bv_cons, ← or16 _ _ c1 v1 c2 v2]
            exact own3
          case measure => simp [intOf]; omega
        · have hke : 2 * k = s.size := by omega
          have HU' := HU.out
          rw [List.take_of_length_le (by rw [HL.out]; omega)] at HU'
          have F := Lib.hid (unhexR_some (by rw [HL.out]; exact g1) (by rw [HL.out]; omega) HU')
          obtain ⟨A, c, rfl, _⟩ := OW.out.slice
          have hc := str_run c OW.out.rd
          clear HU' HU hke
          go_wp2_with fail
          go_ret2
          exact ⟨by rw [F.out]; rfl, OW.out.2⟩
  · have q1 : (((s.size : Int) % 2) != 0) = true := by simp; omega
    have F := Lib.hid (unhexR_no (l := s.data.toList) (by omega))
    clear hl
    go_enter Tryd.func13, Tryd.ntmps13
    go_wp2_with fail
    go_ret2
    exact ⟨by rw [F.out]; rfl, Below.refl _ _⟩
end Go.Proofs.YtbfiofakcgblaaaDoor
