/- Lemmas for the row. -/
import Derived.Test.YtadcebdhgocmhaaKo1
import Derived.StillTailTactics
import Derived.Deep.RegionHeld3
import Derived.Test.YtadcebdhgocmhaaKo4
namespace Go.Proofs.Ytadcebdhgocmhaa
open Go.RowKit
set_option linter.unusedVariables false
theorem str_run {w : World} {A : Option Addr} {n : Nat} (c : Nat) {l : List UInt8} (rd : Rd w 1 A n (bv l)) : (convert 22 9 (.slice A n c)).run Try.prog w = .ok (.string ⟨l.toArray⟩) w :=
  run_str 22 5 9 Try.underlying22 Try.underlying5 Try.underlying9 c rd
def decL (k : Nat) : List UInt8 := if k = 0 then [] else decL (k / 10) ++ [UInt8.ofNat (48 + k % 10)]
theorem decL_zero : decL 0 = [] := by rw [decL]; rfl
theorem decL_pos {k : Nat} (h : 0 < k) : decL k = decL (k / 10) ++ [UInt8.ofNat (48 + k % 10)] := by rw [decL, if_neg (by omega)]
theorem decL_step {k : Nat} (h : 0 < k) (acc : List UInt8) : decL (k / 10) ++ (UInt8.ofNat (48 + k % 10) :: acc) = decL k ++ acc := by rw [decL_pos h]; simp
def markT (k : Nat) : ByteArray := ⟨(109 :: decL k).toArray⟩
def chr (n : Int) : UInt8 := UInt8.ofNat n.toNat
theorem one_byte (W : World) (n : Int) (h0 : 0 ≤ n) (h1 : n < 256) : (convert 22 9 (.slice (some ⟨W.heap.size, 0, none⟩) 1 1)).run Try.prog (W.alloc (.cells #[.int .u8 n] 5)) = .ok (.string ⟨#[chr n]⟩) (W.alloc (.cells #[.int .u8 n] 5)) := by
  have e : (n : Int) = ((UInt8.ofNat n.toNat).toNat : Int) := by rw [UInt8.toNat_ofNat']; omega
  have := Rd.new W 1 1 #[.int .u8 ((UInt8.ofNat n.toNat).toNat : Int)] 5 rfl
  rw [← e] at this
  exact str_run 1 (l := [UInt8.ofNat n.toNat]) (by rw [bv_cons, ← e]; exact this)
theorem cat_str (a : UInt8) (l : List UInt8) : (⟨#[a]⟩ : ByteArray) ++ ⟨l.toArray⟩ = ⟨(a :: l).toArray⟩ := by
  apply str_ext; simp
theorem str_len (l : List UInt8) : (⟨l.toArray⟩ : ByteArray).size = l.length := by simp [ByteArray.size]
theorem str_len1 (c : UInt8) : (⟨#[c]⟩ : ByteArray).size = 1 := rfl
set_option maxHeartbeats 400000 in
theorem laws_markText (k : Nat) (w : World) (h : 0 < k) (hk : k ≤ 1000000000000) : Calls Try.prog 89 #[.int .i64 (k : Int)] w fun e w' => e = .returned (.string (markT k)) ∧ Below w.heap.size w w' := by
  have hd : decide (k = 0) = false := decide_no (by omega)
  go_enter Try.func89, Try.ntmps89
  go_wp2_with fail
  go_loopw [0, 3] (fun n v wr => ∃ (m : Nat) (acc : List UInt8), acc.length + m ≤ k ∧ n = .int .i64 m ∧ v = .string ⟨acc.toArray⟩ ∧ Hid (decL m ++ acc = decL k) ∧ Below w.heap.size w wr) (fun n _ _ => (intOf n).toNat)
  case atStart => exact ⟨k, [], by simp, rfl, rfl, Lib.hid (by simp), Below.refl _ _⟩
  case round =>
    obtain ⟨m, acc, hm, rfl, rfl, HD, hb⟩ := hrel
    have HB := Lib.hid hb
    clear hb
    by_cases h0 : 0 < m
    · have HS := Lib.hid (decL_step h0 acc)
      have hc := fun W => one_byte W (48 + (m : Int) % 10) (by omega) (by omega)
      have hl := str_len acc
      have hl1 := str_len1 (chr (48 + (m : Int) % 10))
      generalize he : (⟨acc.toArray⟩ : ByteArray) = a at *
      generalize hf : chr (48 + (m : Int) % 10) = d at *
      have HE := Lib.hid he
      have HF := Lib.hid hf
      clear he hf
      go_wp2_with fail
      go_roundw
      case rel =>
        refine ⟨m / 10, UInt8.ofNat (48 + m % 10) :: acc, by simp; omega, by go_num, ?_, Lib.hid (HS.out.trans HD.out), HB.out.alloc HB.out.size _⟩
        have e1 := cat_str d acc
        rw [HE.out] at e1
        rw [e1, ← HF.out]; rfl
      case measure => simp [intOf]; omega
    · have e : m = 0 := by omega
      have HE := Lib.hid e
      clear e
      go_wp2_with fail
      go_ret
      refine ⟨ret_str ?_, HB.out⟩
      have := HD.out
      rw [HE.out, decL_zero, List.nil_append] at this
      rw [← cat_str, this]; rfl
def marksS (n k : Nat) : List ByteArray := (List.range n).map fun i => markT (k + i)
theorem marksS_get (n k i : Nat) (h : i < n) : (marksS n k)[i]? = some (markT (k + i)) := by simp [marksS, h]
theorem marksS_length (n k : Nat) : (marksS n k).length = n := by simp [marksS]
def OwnStrs (w0 w : World) (v : Value) (ss : List ByteArray) : Prop := Own w0 w 9 1 v ss.length (ss.map Value.string)
theorem OwnStrs.is {w0 w : World} {v : Value} {ss : List ByteArray} (h : OwnStrs w0 w v ss) : ∃ A c, v = .slice A ss.length c ∧ ss.length ≤ c ∧ Rd w 1 A ss.length (ss.map Value.string) := by
  obtain ⟨A, c, e, hc⟩ := h.slice
  subst e
  exact ⟨A, c, rfl, hc, h.rd⟩
theorem OwnStrs.below {w0 w w' : World} {v : Value} {ss : List ByteArray} (h : OwnStrs w0 w v ss) (hb : Below w.heap.size w w') : OwnStrs w0 w' v ss := Own.below h hb
theorem own_cap {w : World} {base : Nat} {e : TypeId} {sz n c : Nat} {A : Option Addr} {xs : List Value} (h : w.ownsRow base e sz (.slice A n c) n xs) : c ≤ maxLen := by
  rcases h.2 with ⟨h1, _⟩ | ⟨g, cap, cur, h1, _, _, _, hm, _⟩
  · injection h1 with _ _ h2; subst h2; simp [maxLen]
  · injection h1 with _ _ h2; subst h2; exact hm
theorem OwnStrs.isStrs {w0 w : World} {v : Value} {ss : List ByteArray} (h : OwnStrs w0 w v ss) : IsStrs w v ss := by
  obtain ⟨A, c, e, hc⟩ := h.slice
  subst e
  exact ⟨A, c, rfl, hc, own_cap h.1, h.rd⟩
set_option maxHeartbeats 400000 in
theorem laws_heldStringS (v : Value) (n k : Nat) (w : World) (h : IsStrs w v (marksS n k)) (h0 : 0 < k) (h1 : n ≤ 10000000) (h2 : k ≤ 100000000) :
    Calls Try.prog 59 #[v, .int .i64 (k : Int)] w fun e w' => e = .returned (.int .i64 ((k + n : Nat) : Int)) ∧ Below w.heap.size w w' := by
  obtain ⟨A, c, rfl, h3, h4, rd⟩ := h
  have RD := Lib.hid rd
  clear rd
  have hn := marksS_length n k
  rw [hn] at RD h3
  rw [hn]
  clear hn
  go_enter Try.func59, Try.ntmps59
  go_wp2_with fail
  go_loopw [1, 5] (fun x i wr => ∃ m : Nat, m ≤ n ∧ i = .int .i64 m ∧ x = .int .i64 ((k + m : Nat) : Int) ∧ Below w.heap.size w wr) (fun _ i _ => n - (intOf i).toNat)
  case atStart => exact ⟨0, Nat.zero_le _, rfl, rfl, Below.refl _ _⟩
  case round =>
    obtain ⟨m, hm, rfl, rfl, hb⟩ := hrel
    have HB := Lib.hid hb
    clear hb
    by_cases hlt : m < n
    · obtain ⟨b, off, rfl, hc⟩ := RD.out.2 (by omega)
      have hcell0 := hc m (.string (markT (k + m))) (by simp [marksS, hlt])
      have hcell : wr.cell? ⟨b, off + m, none⟩ = some (.string (markT (k + m))) := (HB.out.cell (cell_lt hcell0)).trans hcell0
      have hlt0 := cell_lt hcell
      have h0m : (0 : Int) ≤ (m : Int) := by omega
      have h1m : (m : Int) < (n : Int) := by omega
      have he : ((markT (k + m)).toList == (markT (k + m)).toList) = true := by simp
      have ec : (k : Int) + (m : Int) = ((k + m : Nat) : Int) := by omega
      have EC := Lib.hid ec
      clear hc hcell0 ec
      go_wp2_with fail
      go_region_held3 (fun w' => w'.cell? ⟨b, off + m, none⟩ = some (.string (markT (k + m)))) (first | go_keep | (rw [b1.cell (by simpa using hlt0)]; assumption) | (rw [b1.cell (by simpa using hlt0)]; exact hcell))
        (first | (go_at_call 89; rw [EC.out]; refine (laws_markText (k + m) _ (by omega) (by omega)).mono ?_; rintro e w1 ⟨rfl, b1⟩))
      all_goals
        go_wp2_with fail
        go_roundw
        case rel => exact ⟨m + 1, by omega, by go_num, by go_num, HB.out.drew.trans (b1.mono HB.out.size)⟩
        case measure => simp [intOf]; omega
    · go_wp2_with fail
      go_ret
      exact ⟨ret_int (by omega), HB.out⟩
end Go.Proofs.Ytadcebdhgocmhaa
