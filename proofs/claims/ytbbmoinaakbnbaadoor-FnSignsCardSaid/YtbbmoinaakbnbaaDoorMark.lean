/- Decimal figures of a number, and the contracts of the laws' helpers that mark texts and look for the marks. -/
import Derived.Test.YtbbmoinaakbnbaaDoorHex
import Derived.Test.YtbbmoinaakbnbaaDoorStrs
import Derived.Deep.RegionHeld3
namespace Go.Proofs.YtbbmoinaakbnbaaDoor
open Go.RowKit

/-- the decimal figures of a number above 0; nothing of 0 -/
def decL (k : Nat) : List UInt8 := if k = 0 then [] else decL (k / 10) ++ [UInt8.ofNat (48 + k % 10)]
theorem decL_zero : decL 0 = [] := by rw [decL]; rfl
theorem decL_pos {k : Nat} (h : 0 < k) : decL k = decL (k / 10) ++ [UInt8.ofNat (48 + k % 10)] := by rw [decL, if_neg (by omega)]
theorem decL_step {k : Nat} (h : 0 < k) (acc : List UInt8) : decL (k / 10) ++ (UInt8.ofNat (48 + k % 10) :: acc) = decL k ++ acc := by rw [decL_pos h]; simp
def markT (k : Nat) : ByteArray := ⟨(109 :: decL k).toArray⟩
def chr (n : Int) : UInt8 := UInt8.ofNat n.toNat
theorem one_byte (W : World) (n : Int) (h0 : 0 ≤ n) (h1 : n < 256) : (convert 42 9 (.slice (some ⟨W.heap.size, 0, none⟩) 1 1)).run Tryd.prog (W.alloc (.cells #[.int .u8 n] 5)) = .ok (.string ⟨#[chr n]⟩) (W.alloc (.cells #[.int .u8 n] 5)) := by
  have e : (n : Int) = ((UInt8.ofNat n.toNat).toNat : Int) := by rw [UInt8.toNat_ofNat']; omega
  have := Rd.new W 1 1 #[.int .u8 ((UInt8.ofNat n.toNat).toNat : Int)] 5 rfl
  rw [← e] at this
  exact str_run 1 (l := [UInt8.ofNat n.toNat]) (by rw [bv_cons, ← e]; exact this)
theorem cat_str (a : UInt8) (l : List UInt8) : (⟨#[a]⟩ : ByteArray) ++ ⟨l.toArray⟩ = ⟨(a :: l).toArray⟩ := by
  apply str_ext; simp
theorem str_len (l : List UInt8) : (⟨l.toArray⟩ : ByteArray).size = l.length := by simp [ByteArray.size]
theorem str_len1 (c : UInt8) : (⟨#[c]⟩ : ByteArray).size = 1 := rfl
set_option maxHeartbeats 400000 in
theorem laws_markText (k : Nat) (w : World) (h : 0 < k) (hk : k ≤ 1000000000000) : Calls Tryd.prog 36 #[.int .i64 (k : Int)] w fun e w' => e = .returned (.string (markT k)) ∧ Below w.heap.size w w' := by
  have hd : decide (k = 0) = false := decide_no (by omega)
  go_enter Tryd.func36, Tryd.ntmps36
  go_wp2_with fail
  go_loopw [0, 3] (fun n v wr => ∃ (m : Nat) (acc : List UInt8), acc.length + m ≤ k ∧ n = .int .i64 m ∧ v = .string ⟨acc.toArray⟩ ∧ Hid (decL m ++ acc = decL k) ∧ Below w.heap.size w wr) (fun n _ _ => (intOf n).toNat)
  case atStart => exact ⟨k, [], by simp, rfl, rfl, Lib.hid (by simp), Below.refl _ _⟩
  case round =>
    obtain ⟨m, acc, hm, rfl, rfl, HD, hb⟩ := hrel
    have HB := Lib.hid hb
    clear hb
    by_cases h0 : 0 < m
    · have HS := Lib.hid (decL_step h0 acc)
      have hc := fun W => one_byte W (48 + (m : Int) % 10) (by omega) (by omega)
      have hl := str_len acc
      have hl1 := str_len1 (chr (48 + (m : Int) % 10))
      generalize he : (⟨acc.toArray⟩ : ByteArray) = a at *
      generalize hf : chr (48 + (m : Int) % 10) = d at *
      have HE := Lib.hid he
      have HF := Lib.hid hf
      clear he hf
      go_wp2_with fail
      go_roundw
      case rel =>
        refine ⟨m / 10, UInt8.ofNat (48 + m % 10) :: acc, by simp; omega, by go_num, ?_, Lib.hid (HS.out.trans HD.out), HB.out.alloc HB.out.size _⟩
        have e1 := cat_str d acc
        rw [HE.out] at e1
        rw [e1, ← HF.out]; rfl
      case measure => simp [intOf]; omega
    · have e : m = 0 := by omega
      have HE := Lib.hid e
      clear e
      go_wp2_with fail
      go_ret
      refine ⟨ret_str ?_, HB.out⟩
      have := HD.out
      rw [HE.out, decL_zero, List.nil_append] at this
      rw [← cat_str, this]; rfl
/-- the texts that markStringS leaves: from k on -/
def marksS (n k : Nat) : List ByteArray := (List.range n).map fun i => markT (k + i)
theorem marksS_get (n k i : Nat) (h : i < n) : (marksS n k)[i]? = some (markT (k + i)) := by simp [marksS, h]
theorem marksS_length (n k : Nat) : (marksS n k).length = n := by simp [marksS]
/-- behind round i: marks, then what was there -/
def mixS (ss : List ByteArray) (k i : Nat) : List ByteArray := (marksS ss.length k).take i ++ ss.drop i
theorem mixS_zero (ss : List ByteArray) (k : Nat) : mixS ss k 0 = ss := by simp [mixS]
theorem mixS_all (ss : List ByteArray) (k : Nat) : mixS ss k ss.length = marksS ss.length k := by
  unfold mixS; rw [List.take_of_length_le (by rw [marksS_length]; exact Nat.le_refl _)]; simp
theorem mixS_length (ss : List ByteArray) (k i : Nat) (h : i ≤ ss.length) : (mixS ss k i).length = ss.length := by simp [mixS, marksS_length]; omega
theorem mixS_set (ss : List ByteArray) (k i : Nat) (h : i < ss.length) : (mixS ss k i).set i (markT (k + i)) = mixS ss k (i + 1) := by
  unfold mixS
  have hl : ((marksS ss.length k).take i).length = i := by simp [marksS_length]; omega
  have h1 : i < (marksS ss.length k).length := by rw [marksS_length]; exact h
  have e2 : (marksS ss.length k).take (i + 1) = (marksS ss.length k).take i ++ [(marksS ss.length k)[i]] := List.take_succ_eq_append_getElem h1
  rw [List.set_append_right _ _ (by omega), hl, Nat.sub_self, List.drop_eq_getElem_cons h, List.set_cons_zero, e2, List.append_assoc]
  simp [marksS]
theorem map_set_str (l : List ByteArray) (i : Nat) (s : ByteArray) : (l.map Value.string).set i (.string s) = (l.set i s).map Value.string := by rw [List.map_set]
/-- v is the call's own row of the texts ss -/
def OwnStrs (w0 w : World) (v : Value) (ss : List ByteArray) : Prop := Own w0 w 9 1 v ss.length (ss.map Value.string)
theorem OwnStrs.is {w0 w : World} {v : Value} {ss : List ByteArray} (h : OwnStrs w0 w v ss) : ∃ A c, v = .slice A ss.length c ∧ ss.length ≤ c ∧ Rd w 1 A ss.length (ss.map Value.string) := by
  obtain ⟨A, c, e, hc⟩ := h.slice
  subst e
  exact ⟨A, c, rfl, hc, h.rd⟩
theorem OwnStrs.below {w0 w w' : World} {v : Value} {ss : List ByteArray} (h : OwnStrs w0 w v ss) (hb : Below w.heap.size w w') : OwnStrs w0 w' v ss := Own.below h hb
theorem own_cap {w : World} {base : Nat} {e : TypeId} {sz n c : Nat} {A : Option Addr} {xs : List Value} (h : w.ownsRow base e sz (.slice A n c) n xs) : c ≤ maxLen := by
  rcases h.2 with ⟨h1, _⟩ | ⟨g, cap, cur, h1, _, _, _, hm, _⟩
  · injection h1 with _ _ h2; subst h2; simp [maxLen]
  · injection h1 with _ _ h2; subst h2; exact hm
theorem OwnStrs.isStrs {w0 w : World} {v : Value} {ss : List ByteArray} (h : OwnStrs w0 w v ss) : IsStrs w v ss := by
  obtain ⟨A, c, e, hc⟩ := h.slice
  subst e
  exact ⟨A, c, rfl, hc, own_cap h.1, h.rd⟩
end Go.Proofs.YtbbmoinaakbnbaaDoor
