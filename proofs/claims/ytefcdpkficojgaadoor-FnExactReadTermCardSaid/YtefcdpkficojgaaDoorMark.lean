/- Decimal figures of a number, and the contracts of the laws' helpers that mark texts and look for the marks. -/
import Derived.Test.YtefcdpkficojgaaDoorHex
import Derived.Test.YtefcdpkficojgaaDoorStrs
import Derived.Deep.RegionHeld3
namespace Go.Proofs.YtefcdpkficojgaaDoor
open Go.RowKit

/-- the decimal figures of a number above 0; nothing of 0 -/
def decL (k : Nat) : List UInt8 := if k = 0 then [] else decL (k / 10) ++ [UInt8.ofNat (48 + k % 10)]
theorem decL_zero : decL 0 = [] := by rw [decL]; rfl
theorem decL_pos {k : Nat} (h : 0 < k) : decL k = decL (k / 10) ++ [UInt8.ofNat (48 + k % 10)] := by rw [decL, if_neg (by omega)]
theorem decL_step {k : Nat} (h : 0 < k) (acc : List UInt8) : decL (k / 10) ++ (UInt8.ofNat (48 + k % 10) :: acc) = decL k ++ acc := by rw [decL_pos h]; simp
def markT (k : Nat) : ByteArray := ⟨(109 :: decL k).toArray⟩
def chr (n : Int) : UInt8 := UInt8.ofNat n.toNat
theorem one_byte (W : World) (n : Int) (h0 : 0 ≤ n) (h1 : n < 256) : (convert 40 9 (.slice (some ⟨W.heap.size, 0, none⟩) 1 1)).run Tryd.prog (W.alloc (.cells #[.int .u8 n] 5)) = .ok (.string ⟨#[chr n]⟩) (W.alloc (.cells #[.int .u8 n] 5)) := by
  have e : (n : Int) = ((UInt8.ofNat n.toNat).toNat : Int) := by rw [UInt8.toNat_ofNat']; omega
  have := Rd.new W 1 1 #[.int .u8 ((UInt8.ofNat n.toNat).toNat : Int)] 5 rfl
  rw [← e] at this
  exact str_run 1 (l := [UInt8.ofNat n.toNat]) (by rw [bv_cons, ← e]; exact this)
theorem cat_str (a : UInt8) (l : List UInt8) : (⟨#[a]⟩ : ByteArray) ++ ⟨l.toArray⟩ = ⟨(a :: l).toArray⟩ := by
  apply str_ext; simp
theorem str_len (l : List UInt8) : (⟨l.toArray⟩ : ByteArray).size = l.length := by simp [ByteArray.size]
theorem str_len1 (c : UInt8) : (⟨#[c]⟩ : ByteArray).size = 1 := rfl
set_option maxHeartbeats 400000 in
theorem laws_markText (k : Nat) (w : World) (h : 0 < k) (hk : k ≤ 1000000000000) : Calls Tryd.prog 84 #[.int .i64 (k : Int)] w fun e w' => e = .returned (.string (markT k)) ∧ Below w.heap.size w w' := by
  have hd : decide (k = 0) = false := decide_no (by omega)
  go_enter Tryd.func84, Tryd.ntmps84
  go_wp2_with fail
  go_loopw [0, 3] (fun n v wr => ∃ (m : Nat) (acc : List UInt8), acc.length + m ≤ k ∧ n = .int .i64 m ∧ v = .string ⟨acc.toArray⟩ ∧ Hid (decL m ++ acc = decL k) ∧ Below w.heap.size w wr) (fun n _ _ => (intOf n).toNat)
  case atStart => exact ⟨k, [], by simp, rfl, rfl, Lib.hid (by simp), Below.refl _ _⟩
  case round =>
    obtain ⟨m, acc, hm, rfl, rfl, HD, hb⟩ := hrel
    have HB := Lib.hid hb
    clear hb
    by_cases h0 : 0 < m
    · have HS := Lib.hid (decL_step h0 acc)
      have hc := fun W => one_byte W (48 + (m : Int) % 10) (by omega) (by omega)
      have hl := str_len acc
      have hl1 := str_len1 (chr (48 + (m : Int) % 10))
      generalize he : (⟨acc.toArray⟩ : ByteArray) = a at *
      generalize hf : chr (48 + (m : Int) % 10) = d at *
      have HE := Lib.hid he
      have HF := Lib.hid hf
      clear he hf
      go_wp2_with fail
      go_roundw
      case rel =>
        refine ⟨m / 10, UInt8.ofNat (48 + m % 10) :: acc, by simp; omega, by go_num, ?_, Lib.hid (HS.out.trans HD.out), HB.out.alloc HB.out.size _⟩
        have e1 := cat_str d acc
        rw [HE.out] at e1
        rw [e1, ← HF.out]; rfl
      case measure => simp [intOf]; omega
    · have e : m = 0 := by omega
      have HE := Lib.hid e
      clear e
      go_wp2_with fail
      go_ret
      refine ⟨ret_str ?_, HB.out⟩
      have := HD.out
      rw [HE.out, decL_zero, List.nil_append] at this
      rw [← cat_str, this]; rfl
/-- the texts that markStringS leaves: from k on -/
def marksS (n k : Nat) : List ByteArray := (List.range n).map fun i => markT (k + i)
theorem marksS_get (n k i : Nat) (h : i < n) : (marksS n k)[i]? = some (markT (k + i)) := by simp [marksS, h]
theorem marksS_length (n k : Nat) : (marksS n k).length = n := by simp [marksS]
/-- behind round i: marks, then what was there -/
def mixS (ss : List ByteArray) (k i : Nat) : List ByteArray := (marksS ss.length k).take i ++ ss.drop i
theorem mixS_zero (ss : List ByteArray) (k : Nat) : mixS ss k 0 = ss := by simp [mixS]
theorem mixS_all (ss : List ByteArray) (k : Nat) : mixS ss k ss.length = marksS ss.length k := by
  unfold mixS; rw [List.take_of_length_le (by rw [marksS_length]; exact Nat.le_refl _)]; simp
theorem mixS_length (ss : List ByteArray) (k i : Nat) (h : i ≤ ss.length) : (mixS ss k i).length = ss.length := by simp [mixS, marksS_length]; omega
theorem mixS_set (ss : List ByteArray) (k i : Nat) (h : i < ss.length) : (mixS ss k i).set i (markT (k + i)) = mixS ss k (i + 1) := by
  unfold mixS
  have hl : ((marksS ss.length k).take i).length = i := by simp [marksS_length]; omega
  have h1 : i < (marksS ss.length k).length := by rw [marksS_length]; exact h
  have e2 : (marksS ss.length k).take (i + 1) = (marksS ss.length k).take i ++ [(marksS ss.length k)[i]] := List.take_succ_eq_append_getElem h1
  rw [List.set_append_right _ _ (by omega), hl, Nat.sub_self, List.drop_eq_getElem_cons h, List.set_cons_zero, e2, List.append_assoc]
  simp [marksS]
theorem map_set_str (l : List ByteArray) (i : Nat) (s : ByteArray) : (l.map Value.string).set i (.string s) = (l.set i s).map Value.string := by rw [List.map_set]
/-- v is the call's own row of the texts ss -/
def OwnStrs (w0 w : World) (v : Value) (ss : List ByteArray) : Prop := Own w0 w 9 1 v ss.length (ss.map Value.string)
theorem OwnStrs.is {w0 w : World} {v : Value} {ss : List ByteArray} (h : OwnStrs w0 w v ss) : ∃ A c, v = .slice A ss.length c ∧ ss.length ≤ c ∧ Rd w 1 A ss.length (ss.map Value.string) := by
  obtain ⟨A, c, e, hc⟩ := h.slice
  subst e
  exact ⟨A, c, rfl, hc, h.rd⟩
theorem OwnStrs.below {w0 w w' : World} {v : Value} {ss : List ByteArray} (h : OwnStrs w0 w v ss) (hb : Below w.heap.size w w') : OwnStrs w0 w' v ss := Own.below h hb
theorem own_cap {w : World} {base : Nat} {e : TypeId} {sz n c : Nat} {A : Option Addr} {xs : List Value} (h : w.ownsRow base e sz (.slice A n c) n xs) : c ≤ maxLen := by
  rcases h.2 with ⟨h1, _⟩ | ⟨g, cap, cur, h1, _, _, _, hm, _⟩
  · injection h1 with _ _ h2; subst h2; simp [maxLen]
  · injection h1 with _ _ h2; subst h2; exact hm
theorem OwnStrs.isStrs {w0 w : World} {v : Value} {ss : List ByteArray} (h : OwnStrs w0 w v ss) : IsStrs w v ss := by
  obtain ⟨A, c, e, hc⟩ := h.slice
  subst e
  exact ⟨A, c, rfl, hc, own_cap h.1, h.rd⟩
set_option maxHeartbeats 400000 in
theorem laws_markStringS (v : Value) (ss : List ByteArray) (k : Nat) (w0 w : World) (own : OwnStrs w0 w v ss) (h0 : 0 < k) (h1 : ss.length ≤ 10000000) (h2 : k ≤ 100000000) :
    Calls Tryd.prog 122 #[v, .int .i64 (k : Int)] w fun e w' => e = .returned (.int .i64 ((k + ss.length : Nat) : Int)) ∧ OwnStrs w0 w' v (marksS ss.length k) := by
  obtain ⟨A, c, rfl, hc, _⟩ := own.is
  have OW := Lib.hid own
  clear own
  go_enter Tryd.func122, Tryd.ntmps122
  go_wp2_with fail
  go_loopw [1, 5] (fun n i wr => ∃ m : Nat, m ≤ ss.length ∧ i = .int .i64 m ∧ n = .int .i64 ((k + m : Nat) : Int) ∧ Own w0 wr 9 1 (.slice A ss.length c) ss.length ((mixS ss k m).map Value.string)) (fun _ i _ => ss.length - (intOf i).toNat)
  case atStart => exact ⟨0, Nat.zero_le _, rfl, rfl, by rw [mixS_zero]; exact OW.out⟩
  case round =>
    obtain ⟨m, hm, rfl, rfl, own⟩ := hrel
    have OR := Lib.hid own
    clear own
    by_cases hlt : m < ss.length
    · obtain ⟨g, cap, hv, _, _⟩ := OR.out.1.form (by omega)
      have hA : A = some ⟨g, 0, none⟩ := by injection hv
      subst hA
      clear hv
      have h0m : (0 : Int) ≤ (m : Int) := by omega
      go_wp2_with fail
      have e : (k : Int) + (m : Int) = ((k + m : Nat) : Int) := by omega
      rw [e]
      clear e
      refine (laws_markText (k + m) _ (by omega) (by omega)).mono ?_
      rintro e w1 ⟨rfl, b1⟩
      have O1 := Lib.hid (OR.out.below b1)
      have hl : m < ((mixS ss k m).map Value.string).length := by rw [List.length_map, mixS_length _ _ _ (by omega)]; exact hlt
      obtain ⟨old, hcell⟩ : ∃ u, w1.cell? ⟨g, m, none⟩ = some u := ⟨_, O1.out.cellAt (j := m) (by omega) (List.getElem?_eq_getElem hl)⟩
      have hfree := O1.out.freeAt m
      have OS := O1.out.set m (.string (markT (k + m)))
      rw [map_set_str, mixS_set _ _ _ hlt] at OS
      have O2 := Lib.hid OS
      clear OS hl
      go_wp2_with fail
      go_roundw
      case rel => exact ⟨m + 1, by omega, by go_num, by go_num, O2.out⟩
      case measure => simp [intOf]; omega
    · have e : m = ss.length := by omega
      have OE := OR.out
      rw [e, mixS_all] at OE
      have O2 := Lib.hid OE
      have HE := Lib.hid e
      clear OE e OR OW
      go_wp2_with fail
      go_ret
      exact ⟨ret_int (by rw [HE.out]), by unfold OwnStrs; rw [marksS_length]; exact O2.out⟩
set_option maxHeartbeats 400000 in
theorem laws_heldStringS (v : Value) (n k : Nat) (w : World) (h : IsStrs w v (marksS n k)) (h0 : 0 < k) (h1 : n ≤ 10000000) (h2 : k ≤ 100000000) :
    Calls Tryd.prog 124 #[v, .int .i64 (k : Int)] w fun e w' => e = .returned (.int .i64 ((k + n : Nat) : Int)) ∧ Below w.heap.size w w' := by
  obtain ⟨A, c, rfl, h3, h4, rd⟩ := h
  have RD := Lib.hid rd
  clear rd
  have hn := marksS_length n k
  rw [hn] at RD h3
  rw [hn]
  clear hn
  go_enter Tryd.func124, Tryd.ntmps124
  go_wp2_with fail
  go_loopw [1, 5] (fun x i wr => ∃ m : Nat, m ≤ n ∧ i = .int .i64 m ∧ x = .int .i64 ((k + m : Nat) : Int) ∧ Below w.heap.size w wr) (fun _ i _ => n - (intOf i).toNat)
  case atStart => exact ⟨0, Nat.zero_le _, rfl, rfl, Below.refl _ _⟩
  case round =>
    obtain ⟨m, hm, rfl, rfl, hb⟩ := hrel
    have HB := Lib.hid hb
    clear hb
    by_cases hlt : m < n
    · obtain ⟨b, off, rfl, hc⟩ := RD.out.2 (by omega)
      have hcell0 := hc m (.string (markT (k + m))) (by simp [marksS, hlt])
      have hcell : wr.cell? ⟨b, off + m, none⟩ = some (.string (markT (k + m))) := (HB.out.cell (cell_lt hcell0)).trans hcell0
      have hlt0 := cell_lt hcell
      have h0m : (0 : Int) ≤ (m : Int) := by omega
      have h1m : (m : Int) < (n : Int) := by omega
      have he : ((markT (k + m)).toList == (markT (k + m)).toList) = true := by simp
      have ec : (k : Int) + (m : Int) = ((k + m : Nat) : Int) := by omega
      have EC := Lib.hid ec
      clear hc hcell0 ec
      go_wp2_with fail
      go_region_held3 (fun w' => w'.cell? ⟨b, off + m, none⟩ = some (.string (markT (k + m)))) (first | go_keep | (rw [b1.cell (by simpa using hlt0)]; assumption) | (rw [b1.cell (by simpa using hlt0)]; exact hcell))
        (first | (go_at_call 84; rw [EC.out]; refine (laws_markText (k + m) _ (by omega) (by omega)).mono ?_; rintro e w1 ⟨rfl, b1⟩))
      all_goals
        go_wp2_with fail
        go_roundw
        case rel => exact ⟨m + 1, by omega, by go_num, by go_num, HB.out.drew.trans (b1.mono HB.out.size)⟩
        case measure => simp [intOf]; omega
    · go_wp2_with fail
      go_ret
      exact ⟨ret_int (by omega), HB.out⟩
end Go.Proofs.YtefcdpkficojgaaDoor
