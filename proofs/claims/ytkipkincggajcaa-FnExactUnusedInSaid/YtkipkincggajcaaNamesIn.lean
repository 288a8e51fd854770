/- Counting down and gathering names in statements: the reference's l04Count, l04Has, l04Names, NamesIn; the program's NamesIn. -/
import Derived.Test.YtkipkincggajcaaCounts
import Derived.Test.YtkipkincggajcaaReads
import Derived.Test.YtkipkincggajcaaStmtMark
import Derived.Test.YtkipkincggajcaaReadsLaw
import Derived.Test.YtkipkincggajcaaLater
namespace Go.Proofs.Ytkipkincggajcaa
open Go.RowKit
set_option linter.unusedVariables false

abbrev CdC (l : List St) : Prop := ∀ (A : Option Addr) (c : Nat) (left : Int) (w : World), StRow AnyB w A l → l.length ≤ c → c ≤ maxLen → -1 ≤ left → left ≤ 1048576 → Calls Try.prog 139 #[.slice A l.length c, .int .i64 left] w fun e w' => e = .returned (.int .i64 (cut0 (left - (snodess l : Int)))) ∧ Qt w w'
theorem cut0_eq (n : Int) : cut0 n = if n < 0 then -1 else n := by
  by_cases h : n < 0
  · rw [if_pos h, cut0_neg h]
  · rw [if_neg h, cut0_pos (by omega)]
theorem cut0_sub (a b : Int) (hb : 0 ≤ b) : cut0 (cut0 a - b) = cut0 (a - b) := by
  rw [cut0_eq, cut0_eq a, cut0_eq (a - b)]
  repeat' split
  all_goals omega
theorem cut0_le {a : Int} : -1 ≤ cut0 a ∧ (0 ≤ a → cut0 a = a) ∧ (a < 0 → cut0 a = -1) := by
  rw [cut0_eq]
  split <;> omega
set_option maxHeartbeats 800000 in
theorem spec_l04Count_at (l : List St) (ih : ∀ g ∈ l, ∀ t k s body els, g = .mk k s t body els → CdC body ∧ CdC els) : CdC l := by
  intro A c left w row hl hc h0 h1
  unfold maxLen at hc
  have IH := Lib.hid ih
  have RW := Lib.hid row
  clear ih row
  go_enter Try.func139, Try.ntmps139
  go_wp2_with fail
  go_loopw [1, 5] (fun n i wr => ∃ j : Nat, j ≤ l.length ∧ i = .int .i64 j ∧ (∃ m : Int, -1 ≤ m ∧ m ≤ 1048576 ∧ n = .int .i64 m ∧ Hid (m = cut0 (left - (snodess (l.take j) : Int)))) ∧ Hid (Qt w wr)) (fun _ i _ => l.length - (intOf i).toNat)
  case atStart => exact ⟨0, Nat.zero_le _, rfl, ⟨left, h0, h1, rfl, Lib.hid (by simp only [List.take_zero, snodess]; rw [cut0_eq]; split <;> omega)⟩, Lib.hid (Qt.refl _)⟩
  case round =>
    obtain ⟨j, hj, rfl, ⟨m, hm1, hm2, rfl, HM⟩, HQ⟩ := hrel
    by_cases hlt : j < l.length
    case neg =>
      have hd : decide ((j : Int) < (l.length : Int)) = false := decide_no (by omega)
      go_wp2_with fail
      go_ret
      exact ⟨ret_int (by rw [HM.out, List.take_of_length_le (by omega)]), HQ.out⟩
    have hd : decide ((j : Int) < (l.length : Int)) = true := decide_eq_true (by omega)
    have hle := snodess_take_le l j
    by_cases hm : 0 ≤ m
    case neg =>
      have hd2 : decide (0 ≤ m) = false := decide_no hm
      have hm' : ¬ (0 ≤ m) := hm
      have HE : Hid (m = cut0 (left - (snodess l : Int))) := Lib.hid (by
        have := HM.out
        have q := @cut0_le (left - (snodess (l.take j) : Int))
        have q2 := @cut0_le (left - (snodess l : Int))
        omega)
      go_wp2_with fail
      go_ret
      exact ⟨ret_int HE.out, HQ.out⟩
    obtain ⟨b, off, x, rfl, _, ⟨d0, d1, d2, d3, d4, d5, d6, d7⟩, hg⟩ := rd_stmt (RW.out.qt HQ.out) hlt
    obtain ⟨t, body, els, heq, _, _, _, hb1, hb2, hb3, rb, he1, he2, he3, re⟩ := hg.inv
    have VB := Lib.hid (IH.out l[j] (List.getElem_mem hlt) t _ _ body els heq).1
    have VE := Lib.hid (IH.out l[j] (List.getElem_mem hlt) t _ _ body els heq).2
    have hsg : snodes l[j] = 1 + snodess body + snodess els := by rw [heq, snodes]
    have hst := snodess_take l j hlt
    have hle2 := snodess_take_le l (j + 1)
    have q1 := @cut0_le (m - 1 - (snodess body : Int))
    have HR : Hid (cut0 (cut0 (m - 1 - (snodess body : Int)) - (snodess els : Int)) = cut0 (left - (snodess (l.take (j + 1)) : Int))) := Lib.hid (by
      rw [cut0_sub _ _ (by omega)]
      have := HM.out
      have q := @cut0_le (left - (snodess (l.take j) : Int))
      have e : m = left - (snodess (l.take j) : Int) := by omega
      rw [e, hst, hsg]
      congr 1
      push_cast
      omega)
    have RB := Lib.hid rb
    have RE := Lib.hid re
    obtain ⟨xk, xs, tk, tn, ts, tA, tm, tc, bA, bm, bc, eA, em, ec⟩ := x
    simp only at hb1 he1 hb2 hb3 he2 he3 d6 d7 RB RE
    subst hb1 he1
    have h0k : (0 : Int) ≤ (j : Int) := by omega
    have h1k : (j : Int) < (l.length : Int) := by omega
    have b1 : cut0 (m - 1 - (snodess body : Int)) ≤ 1048576 := by omega
    have b2 := q1.1
    have b3 := @cut0_le (cut0 (m - 1 - (snodess body : Int)) - (snodess els : Int))
    have b4 : cut0 (cut0 (m - 1 - (snodess body : Int)) - (snodess els : Int)) ≤ 1048576 := by omega
    have B3 := Lib.hid b3.1
    have Q1 := Lib.hid q1
    have B4 := Lib.hid b4
    have w1 : IntKind.i64.wrap (m - 1) = m - 1 := IntWalk.i64_in _ (by omega)
    have hd2 : decide (0 ≤ m) = true := decide_eq_true hm
    clear hst hsg heq hg rb re d0 d1 d2 d3 d4 d5 hle2 q1 b3 b4
    go_wp2_with fail
    go_quiet ((first | (go_at_call 139; with_reducible exact quiet_qt (VB.out bA bc _ _ (RB.out.drewN _) hb2 hb3 (by omega) (by omega))) | (go_at_call 139; with_reducible exact quiet_qt (VE.out eA ec _ _ (RE.out.drewN _) he2 he3 b2 b1))))
    clear w1
    go_wp2_with fail
    go_roundw
    case rel => exact ⟨j + 1, by omega, by go_num, ⟨_, B3.out, B4.out, rfl, Lib.hid HR.out⟩, Lib.hid (HQ.out.trans (Qt.of_drewN _ _))⟩
    case measure => simp [intOf]; omega
theorem spec_l04Count (l : List St) : CdC l := by
  induction hN : snodess l using Nat.strongRecOn generalizing l with
  | ind N ih =>
    refine spec_l04Count_at l fun g hg t k s body els e => ?_
    have := snodess_le hg
    have h2 : snodes g = 1 + snodess body + snodess els := by rw [e, snodes]
    exact ⟨ih _ (by omega) body rfl, ih _ (by omega) els rfl⟩
set_option maxHeartbeats 400000 in
theorem spec_l04Has (v : Value) (ss : List ByteArray) (x : ByteArray) (w : World) (h : IsStrs w v ss) :
    Calls Try.prog 127 #[v, .string x] w fun e w' => e = .returned (.bool (hasS ss x)) ∧ w = w' := by
  obtain ⟨A, c, rfl, h2, h3, rd⟩ := h
  unfold maxLen at h3
  have RD := Lib.hid rd
  clear rd
  go_enter Try.func127, Try.ntmps127
  go_wp2_with fail
  go_loop [5] (fun i => ∃ k : Nat, k ≤ ss.length ∧ i = .int .i64 k ∧ Hid (∀ s ∈ ss.take k, s ≠ x)) (fun i => ss.length - (intOf i).toNat)
  case atStart => exact ⟨0, Nat.zero_le _, rfl, Lib.hid (by simp)⟩
  case round =>
    obtain ⟨k, hk, rfl, HT⟩ := hrel
    by_cases hlt : k < ss.length
    · obtain ⟨b, off, rfl, hcell⟩ := rd_str RD.out hlt
      have h0k : (0 : Int) ≤ (k : Int) := by omega
      have q := str_eq ss[k] x
      by_cases e : ss[k] = x
      · have HE := Lib.hid (has_at hlt e)
        rw [decide_eq_true e] at q
        clear e
        go_wp2_with fail
        go_ret
        exact ⟨ret_bool HE.out.symm, rfl⟩
      · have HE := Lib.hid e
        rw [decide_no e] at q
        clear e
        go_wp2_with fail
        go_round
        case rel => exact ⟨k + 1, by omega, by go_num, Lib.hid (take_all_succ HT.out hlt HE.out)⟩
        case measure => simp [intOf]; omega
    · go_wp2_with fail
      go_ret
      refine ⟨ret_bool (has_no ?_).symm, rfl⟩
      have := HT.out
      rwa [List.take_of_length_le (by omega)] at this
mutual
def namesG (kind : Int) (acc : List ByteArray) : St → List ByteArray
  | .mk k s _ b e => namesGs kind (namesGs kind (if k = kind then addOnceP acc s else acc) b) e
def namesGs (kind : Int) (acc : List ByteArray) : List St → List ByteArray
  | [] => acc
  | g :: r => namesGs kind (namesG kind acc g) r
end
theorem namesGs_append (kind : Int) (acc : List ByteArray) (l r : List St) : namesGs kind acc (l ++ r) = namesGs kind (namesGs kind acc l) r := by
  induction l generalizing acc with
  | nil => simp [namesGs]
  | cons t l ih => rw [List.cons_append, namesGs, namesGs, ih]
theorem namesGs_take (kind : Int) (acc : List ByteArray) (l : List St) (j : Nat) (h : j < l.length) : namesGs kind acc (l.take (j + 1)) = namesG kind (namesGs kind acc (l.take j)) l[j] := by
  have e : l.take (j + 1) = l.take j ++ [l[j]] := List.take_succ_eq_append_getElem h
  rw [e, namesGs_append]; simp [namesGs]
def nameK (kind k : Int) (acc : List ByteArray) (s : ByteArray) : List ByteArray := if k = kind then addOnceP acc s else acc
theorem namesG_mk (kind : Int) (acc : List ByteArray) (k : Int) (s : ByteArray) (t : Tm) (b e : List St) : namesG kind acc (.mk k s t b e) = namesGs kind (namesGs kind (nameK kind k acc s) b) e := by rw [namesG]; rfl
theorem nameK_len (kind k : Int) (acc : List ByteArray) (s : ByteArray) : (nameK kind k acc s).length ≤ acc.length + 1 := by
  unfold nameK
  split
  · exact addOnce_len acc s
  · omega
mutual
theorem namesG_len (kind : Int) (acc : List ByteArray) : (g : St) → (namesG kind acc g).length ≤ acc.length + snodes g
  | .mk k s t b e => by
    rw [namesG_mk, snodes]
    have := nameK_len kind k acc s
    have := namesGs_len kind (nameK kind k acc s) b
    have := namesGs_len kind (namesGs kind (nameK kind k acc s) b) e
    omega
theorem namesGs_len (kind : Int) (acc : List ByteArray) : (l : List St) → (namesGs kind acc l).length ≤ acc.length + snodess l
  | [] => by rw [namesGs, snodess]; omega
  | g :: r => by
    rw [namesGs, snodess]
    have := namesG_len kind acc g
    have := namesGs_len kind (namesG kind acc g) r
    omega
end
theorem snodess_split (l : List St) (j : Nat) (h : j < l.length) : snodess (l.take j) + snodes l[j] ≤ snodess l := by
  have e : snodess l = snodess (l.take j) + snodess (l.drop j) := by rw [← snodess_append, List.take_append_drop]
  rw [List.drop_eq_getElem_cons h, snodess] at e
  omega
theorem nameK_no {kind k : Int} (h : k ≠ kind) (acc : List ByteArray) (s : ByteArray) : nameK kind k acc s = acc := by simp [nameK, h]
theorem nameK_yes {kind k : Int} (h : k = kind) (acc : List ByteArray) (s : ByteArray) : nameK kind k acc s = addOnceP acc s := by simp [nameK, h]
def namesR (kind : Int) (l : List St) : List ByteArray := if snodess l ≤ 60 then namesGs kind [] l else []
theorem namesR_yes {kind : Int} {l : List St} (h : snodess l ≤ 60) : namesR kind l = namesGs kind [] l := by simp [namesR, h]
theorem namesR_no {kind : Int} {l : List St} (h : ¬ snodess l ≤ 60) : namesR kind l = [] := by simp [namesR, h]
theorem namesR_len (kind : Int) (l : List St) : (namesR kind l).length ≤ 60 := by
  unfold namesR
  split
  · have := namesGs_len kind [] l; simp at this; omega
  · simp
end Go.Proofs.Ytkipkincggajcaa
