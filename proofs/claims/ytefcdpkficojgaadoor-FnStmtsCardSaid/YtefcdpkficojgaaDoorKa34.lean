/- Several texts in one: NamesIn. -/
import Derived.Test.YtefcdpkficojgaaDoorKa30
import Derived.Test.YtefcdpkficojgaaDoorKa26
import Derived.Test.YtefcdpkficojgaaDoorKa32
import Derived.Test.YtefcdpkficojgaaDoorKa33
import Derived.Test.YtefcdpkficojgaaDoorKa23
namespace Go.Proofs.YtefcdpkficojgaaDoor
open Go.RowKit
set_option linter.unusedVariables false


abbrev CdC (l : List St) : Prop := ∀ (A : Option Addr) (c : Nat) (left : Int) (w : World), StRow AnyB w A l → l.length ≤ c → c ≤ maxLen → -1 ≤ left → left ≤ 1048576 → Calls Tryd.prog 74 #[.slice A l.length c, .int .i64 left] w fun e w' => e = .returned (.int .i64 (cut0 (left - (snodess l : Int)))) ∧ Qt w w'
theorem cut0_eq (n : Int) : cut0 n = if n < 0 then -1 else n := by
  by_cases h : n < 0
  · rw [if_pos h, cut0_neg h]
  · rw [if_neg h, cut0_pos (by omega)]
theorem cut0_sub (a b : Int) (hb : 0 ≤ b) : cut0 (cut0 a - b) = cut0 (a - b) := by
  rw [cut0_eq, cut0_eq a, cut0_eq (a - b)]
  repeat' split
  all_goals omega
theorem cut0_le {a : Int} : -1 ≤ cut0 a ∧ (0 ≤ a → cut0 a = a) ∧ (a < 0 → cut0 a = -1) := by
  rw [cut0_eq]
  split <;> omega
set_option maxHeartbeats 800000 in
theorem spec_l04Count_at (l : List St) (ih : ∀ g ∈ l, ∀ t k s body els, g = .mk k s t body els → CdC body ∧ CdC els) : CdC l := by
  intro A c left w row hl hc h0 h1
  unfold maxLen at hc
  have IH := Lib.hid ih
  have RW := Lib.hid row
  clear ih row
  go_enter Tryd.func74, Tryd.ntmps74
  go_wp2_with fail
  go_loopw [1, 5] (fun n i wr => ∃ j : Nat, j ≤ l.length ∧ i = .int .i64 j ∧ (∃ m : Int, -1 ≤ m ∧ m ≤ 1048576 ∧ n = .int .i64 m ∧ Hid (m = cut0 (left - (snodess (l.take j) : Int)))) ∧ Hid (Qt w wr)) (fun _ i _ => l.length - (intOf i).toNat)
  case atStart => exact ⟨0, Nat.zero_le _, rfl, ⟨left, h0, h1, rfl, Lib.hid (by simp only [List.take_zero, snodess]; rw [cut0_eq]; split <;> omega)⟩, Lib.hid (Qt.refl _)⟩
  case round =>
    obtain ⟨j, hj, rfl, ⟨m, hm1, hm2, rfl, HM⟩, HQ⟩ := hrel
    by_cases hlt : j < l.length
    case neg =>
      have hd : decide ((j : Int) < (l.length : Int)) = false := decide_no (by omega)
      go_wp2_with fail
      go_ret
      exact ⟨ret_int (by rw [HM.out, List.take_of_length_le (by omega)]), HQ.out⟩
    have hd : decide ((j : Int) < (l.length : Int)) = true := decide_eq_true (by omega)
    have hle := snodess_take_le l j
    by_cases hm : 0 ≤ m
    case neg =>
      have hd2 : decide (0 ≤ m) = false := decide_no hm
      have hm' : ¬ (0 ≤ m) := hm
      have HE : Hid (m = cut0 (left - (snodess l : Int))) := Lib.hid (by
        have := HM.out
        have q := @cut0_le (left - (snodess (l.take j) : Int))
        have q2 := @cut0_le (left - (snodess l : Int))
        omega)
      go_wp2_with fail
      go_ret
      exact ⟨ret_int HE.out, HQ.out⟩
    obtain ⟨b, off, x, rfl, _, ⟨d0, d1, d2, d3, d4, d5, d6, d7⟩, hg⟩ := rd_stmt (RW.out.qt HQ.out) hlt
    obtain ⟨t, body, els, heq, _, _, _, hb1, hb2, hb3, rb, he1, he2, he3, re⟩ := hg.inv
    have VB := Lib.hid (IH.out l[j] (List.getElem_mem hlt) t _ _ body els heq).1
    have VE := Lib.hid (IH.out l[j] (List.getElem_mem hlt) t _ _ body els heq).2
    have hsg : snodes l[j] = 1 + snodess body + snodess els := by rw [heq, snodes]
    have hst := snodess_take l j hlt
    have hle2 := snodess_take_le l (j + 1)
    have q1 := @cut0_le (m - 1 - (snodess body : Int))
    have HR : Hid (cut0 (cut0 (m - 1 - (snodess body : Int)) - (snodess els : Int)) = cut0 (left - (snodess (l.take (j + 1)) : Int))) := Lib.hid (by
      rw [cut0_sub _ _ (by omega)]
      have := HM.out
      have q := @cut0_le (left - (snodess (l.take j) : Int))
      have e : m = left - (snodess (l.take j) : Int) := by omega
      rw [e, hst, hsg]
      congr 1
      push_cast
      omega)
    have RB := Lib.hid rb
    have RE := Lib.hid re
    obtain ⟨xk, xs, tk, tn, ts, tA, tm, tc, bA, bm, bc, eA, em, ec⟩ := x
    simp only at hb1 he1 hb2 hb3 he2 he3 d6 d7 RB RE
    subst hb1 he1
    have h0k : (0 : Int) ≤ (j : Int) := by omega
    have h1k : (j : Int) < (l.length : Int) := by omega
    have b1 : cut0 (m - 1 - (snodess body : Int)) ≤ 1048576 := by omega
    have b2 := q1.1
    have b3 := @cut0_le (cut0 (m - 1 - (snodess body : Int)) - (snodess els : Int))
    have b4 : cut0 (cut0 (m - 1 - (snodess body : Int)) - (snodess els : Int)) ≤ 1048576 := by omega
    have B3 := Lib.hid b3.1
    have Q1 := Lib.hid q1
    have B4 := Lib.hid b4
    have w1 : IntKind.i64.wrap (m - 1) = m - 1 := IntWalk.i64_in _ (by omega)
    have hd2 : decide (0 ≤ m) = true := decide_eq_true hm
    clear hst hsg heq hg rb re d0 d1 d2 d3 d4 d5 hle2 q1 b3 b4
    go_wp2_with fail
    go_quiet ((first | (go_at_call 74; with_reducible exact quiet_qt (VB.out bA bc _ _ (RB.out.drewN _) hb2 hb3 (by omega) (by omega))) | (go_at_call 74; with_reducible exact quiet_qt (VE.out eA ec _ _ (RE.out.drewN _) he2 he3 b2 b1))))
    clear w1
    go_wp2_with fail
    go_roundw
    case rel => exact ⟨j + 1, by omega, by go_num, ⟨_, B3.out, B4.out, rfl, Lib.hid HR.out⟩, Lib.hid (HQ.out.trans (Qt.of_drewN _ _))⟩
    case measure => simp [intOf]; omega
theorem spec_l04Count (l : List St) : CdC l := by
  induction hN : snodess l using Nat.strongRecOn generalizing l with
  | ind N ih =>
    refine spec_l04Count_at l fun g hg t k s body els e => ?_
    have := snodess_le hg
    have h2 : snodes g = 1 + snodess body + snodess els := by rw [e, snodes]
    exact ⟨ih _ (by omega) body rfl, ih _ (by omega) els rfl⟩
mutual
def namesG (kind : Int) (acc : List ByteArray) : St → List ByteArray
  | .mk k s _ b e => namesGs kind (namesGs kind (if k = kind then addOnceP acc s else acc) b) e
def namesGs (kind : Int) (acc : List ByteArray) : List St → List ByteArray
  | [] => acc
  | g :: r => namesGs kind (namesG kind acc g) r
end
theorem namesGs_append (kind : Int) (acc : List ByteArray) (l r : List St) : namesGs kind acc (l ++ r) = namesGs kind (namesGs kind acc l) r := by
  induction l generalizing acc with
  | nil => simp [namesGs]
  | cons t l ih => rw [List.cons_append, namesGs, namesGs, ih]
theorem namesGs_take (kind : Int) (acc : List ByteArray) (l : List St) (j : Nat) (h : j < l.length) : namesGs kind acc (l.take (j + 1)) = namesG kind (namesGs kind acc (l.take j)) l[j] := by
  have e : l.take (j + 1) = l.take j ++ [l[j]] := List.take_succ_eq_append_getElem h
  rw [e, namesGs_append]; simp [namesGs]
def nameK (kind k : Int) (acc : List ByteArray) (s : ByteArray) : List ByteArray := if k = kind then addOnceP acc s else acc
theorem namesG_mk (kind : Int) (acc : List ByteArray) (k : Int) (s : ByteArray) (t : Tm) (b e : List St) : namesG kind acc (.mk k s t b e) = namesGs kind (namesGs kind (nameK kind k acc s) b) e := by rw [namesG]; rfl
theorem nameK_len (kind k : Int) (acc : List ByteArray) (s : ByteArray) : (nameK kind k acc s).length ≤ acc.length + 1 := by
  unfold nameK
  split
  · exact addOnce_len acc s
  · omega
mutual
theorem namesG_len (kind : Int) (acc : List ByteArray) : (g : St) → (namesG kind acc g).length ≤ acc.length + snodes g
  | .mk k s t b e => by
    rw [namesG_mk, snodes]
    have := nameK_len kind k acc s
    have := namesGs_len kind (nameK kind k acc s) b
    have := namesGs_len kind (namesGs kind (nameK kind k acc s) b) e
    omega
theorem namesGs_len (kind : Int) (acc : List ByteArray) : (l : List St) → (namesGs kind acc l).length ≤ acc.length + snodess l
  | [] => by rw [namesGs, snodess]; omega
  | g :: r => by
    rw [namesGs, snodess]
    have := namesG_len kind acc g
    have := namesGs_len kind (namesG kind acc g) r
    omega
end
theorem snodess_split (l : List St) (j : Nat) (h : j < l.length) : snodess (l.take j) + snodes l[j] ≤ snodess l := by
  have e : snodess l = snodess (l.take j) + snodess (l.drop j) := by rw [← snodess_append, List.take_append_drop]
  rw [List.drop_eq_getElem_cons h, snodess] at e
  omega
abbrev NmC (l : List St) : Prop := ∀ (A : Option Addr) (c : Nat) (kind : Int) (w0 w : World) (v : Value) (acc : List ByteArray), StRow AnyB w0 A l → OwnStrs w0 w v acc → l.length ≤ c → c ≤ maxLen → acc.length + snodess l ≤ 10000000 →
  Calls Tryd.prog 81 #[.slice A l.length c, .int .i64 kind, v] w fun e w' => ∃ v', e = .returned v' ∧ OwnStrs w0 w' v' (namesGs kind acc l) ∧ KeepT 9 w w'
theorem nameK_no {kind k : Int} (h : k ≠ kind) (acc : List ByteArray) (s : ByteArray) : nameK kind k acc s = acc := by simp [nameK, h]
theorem nameK_yes {kind k : Int} (h : k = kind) (acc : List ByteArray) (s : ByteArray) : nameK kind k acc s = addOnceP acc s := by simp [nameK, h]
set_option maxHeartbeats 1600000 in
theorem spec_l04Names_at (l : List St) (ih : ∀ g ∈ l, ∀ t k s body els, g = .mk k s t body els → NmC body ∧ NmC els) : NmC l := by
  intro A c kind w0 w v acc row own hl hc hbd
  unfold maxLen at hc
  have IH := Lib.hid ih
  have RW := Lib.hid row
  have OW := Lib.hid own
  obtain ⟨A0, c0, rfl, hl0⟩ := own.slice
  clear ih row own
  go_enter Tryd.func81, Tryd.ntmps81
  go_wp2_with fail
  go_loopw [2, 7] (fun lv i wr => ∃ j : Nat, j ≤ l.length ∧ i = .int .i64 j ∧ ∃ A' c', lv = .slice A' (namesGs kind acc (l.take j)).length c' ∧ Hid (OwnStrs w0 wr (.slice A' (namesGs kind acc (l.take j)).length c') (namesGs kind acc (l.take j)) ∧ KeepT 9 w wr)) (fun _ i _ => l.length - (intOf i).toNat)
  case atStart => exact ⟨0, Nat.zero_le _, rfl, A0, c0, rfl, Lib.hid ⟨OW.out, KeepT.refl' _ _⟩⟩
  case round =>
    obtain ⟨j, hj, rfl, A', c', rfl, HO⟩ := hrel
    by_cases hlt : j < l.length
    case neg =>
      go_wp2_with fail
      go_ret
      have := HO.out
      rw [List.take_of_length_le (by omega)] at this ⊢
      exact ⟨_, rfl, this.1, this.2⟩
    obtain ⟨b, off, x, rfl, _, ⟨d0, d1, d2, d3, d4, d5, d6, d7⟩, hg⟩ := rd_stmt RW.out hlt
    have D7 := Lib.hid d7
    have D6 := Lib.hid d6
    have D1 := Lib.hid d1
    replace d0 := cell_keep HO.out.1.2 d0
    replace d1 := cell_keep HO.out.1.2 d1
    replace d6 := cell_keep HO.out.1.2 d6
    obtain ⟨t, body, els, heq, _, _, _, hb1, hb2, hb3, rb, he1, he2, he3, re⟩ := hg.inv
    have VB := Lib.hid (IH.out l[j] (List.getElem_mem hlt) t _ _ body els heq).1
    have VE := Lib.hid (IH.out l[j] (List.getElem_mem hlt) t _ _ body els heq).2
    have hsg : snodes l[j] = 1 + snodess body + snodess els := by rw [heq, snodes]
    have hsp := snodess_split l j hlt
    have hnl := namesGs_len kind acc (l.take j)
    have HN := Lib.hid (namesGs_take kind acc l j hlt)
    rw [heq, namesG_mk] at HN
    have RB := Lib.hid rb
    have RE := Lib.hid re
    obtain ⟨xk, xs, tk, tn, ts, tA, tm, tc, bA, bm, bc, eA, em, ec⟩ := x
    simp only at hb1 he1 hb2 hb3 he2 he3 d0 d1 d6 D7 D6 D1 RB RE HN
    subst hb1 he1
    have h0k : (0 : Int) ≤ (j : Int) := by omega
    have hk1 := nameK_len kind xk (namesGs kind acc (l.take j)) xs
    clear heq hg rb re d2 d3 d4 d5 d7
    by_cases e : xk = kind
    case neg =>
      have e' : (xk == kind) = false := beq_eq_false_iff_ne.2 e
      have HK := Lib.hid (nameK_no e (namesGs kind acc (l.take j)) xs)
      clear e
      go_wp2_with fail
      refine (VB.out bA bc kind w0 _ _ (nameK kind xk (namesGs kind acc (l.take j)) xs) RB.out (by rw [HK.out]; exact HO.out.1) hb2 hb3 (by omega)).mono ?_
      rintro e w3 ⟨v3, rfl, own3, kp3⟩
      have O3 := Lib.hid own3
      have K3 : Hid (KeepT 9 w w3) := Lib.hid (KeepT.trans' (HO.out.2) kp3)
      have hl3 := namesGs_len kind (nameK kind xk (namesGs kind acc (l.take j)) xs) body
      have h7 : w3.cell? ⟨b, off + j * 8 + 7, none⟩ = some (.slice eA els.length ec) := cell_keep O3.out.2 D7.out
      obtain ⟨A3, c3, rfl, _⟩ := own3.slice
      clear own3 kp3
      go_wp2_with fail
      refine (VE.out eA ec kind w0 _ _ _ RE.out O3.out he2 he3 (by omega)).mono ?_
      rintro e w4 ⟨v4, rfl, own4, kp4⟩
      rw [← HN.out] at own4
      have O4 := Lib.hid (And.intro own4 (KeepT.trans' K3.out kp4))
      obtain ⟨A4, c4, rfl, _⟩ := own4.slice
      clear own4 kp4 h7
      go_wp2_with fail
      go_roundw
      case rel => exact ⟨j + 1, by omega, by go_num, A4, c4, rfl, O4⟩
      case measure => simp [intOf]; omega
    have e' : (xk == kind) = true := by simp [e]
    have HK := Lib.hid (nameK_yes e (namesGs kind acc (l.take j)) xs)
    clear e
    cases hh : hasS (namesGs kind acc (l.take j)) xs with
    | true =>
      have HA := Lib.hid (addOnce_yes hh)
      go_wp2_with fail
      refine (spec_l04Has _ (namesGs kind acc (l.take j)) xs _ HO.out.1.isStrs).mono ?_
      rintro e w1 ⟨rfl, rfl⟩
      rw [hh]
      clear hh
      go_wp2_with fail
      refine (VB.out bA bc kind w0 _ _ (nameK kind xk (namesGs kind acc (l.take j)) xs) RB.out (by rw [HK.out, HA.out]; exact HO.out.1) hb2 hb3 (by omega)).mono ?_
      rintro e w3 ⟨v3, rfl, own3, kp3⟩
      have O3 := Lib.hid own3
      have K3 : Hid (KeepT 9 w w3) := Lib.hid (KeepT.trans' (HO.out.2) kp3)
      have hl3 := namesGs_len kind (nameK kind xk (namesGs kind acc (l.take j)) xs) body
      have h7 : w3.cell? ⟨b, off + j * 8 + 7, none⟩ = some (.slice eA els.length ec) := cell_keep O3.out.2 D7.out
      obtain ⟨A3, c3, rfl, _⟩ := own3.slice
      clear own3 kp3
      go_wp2_with fail
      refine (VE.out eA ec kind w0 _ _ _ RE.out O3.out he2 he3 (by omega)).mono ?_
      rintro e w4 ⟨v4, rfl, own4, kp4⟩
      rw [← HN.out] at own4
      have O4 := Lib.hid (And.intro own4 (KeepT.trans' K3.out kp4))
      obtain ⟨A4, c4, rfl, _⟩ := own4.slice
      clear own4 kp4 h7
      go_wp2_with fail
      go_roundw
      case rel => exact ⟨j + 1, by omega, by go_num, A4, c4, rfl, O4⟩
      case measure => simp [intOf]; omega
    | false =>
      have HA := Lib.hid (addOnce_no hh)
      go_wp2_with fail
      refine (spec_l04Has _ (namesGs kind acc (l.take j)) xs _ HO.out.1.isStrs).mono ?_
      rintro e w1 ⟨rfl, rfl⟩
      rw [hh]
      clear hh
      go_wp2_with (at_builtin; refine wpList_app_keep rfl _ _ _ rfl strT HO.out.1 _ 1 rfl rfl rfl (by simp [Value.oneCell']) (by simp only [maxLen]; omega) (by omega) ?_; intro v2 w2 own2 kp2; have O2 : Hid (OwnStrs w0 w2 v2 (nameK kind xk (namesGs kind acc (l.take j)) xs)) := Lib.hid (by rw [HK.out, HA.out]; unfold OwnStrs; rw [List.length_append, ← map_snoc]; exact own2); have KK2 := Lib.hid (KeepT.trans' HO.out.2 kp2); obtain ⟨A2, c2, rfl, _⟩ := own2.slice; have g6 := cell_keep O2.out.2 D6.out; clear own2 kp2 d0 d1 d6)
      refine (VB.out bA bc kind w0 _ _ (nameK kind xk (namesGs kind acc (l.take j)) xs) RB.out (by exact O2.out) hb2 hb3 (by omega)).mono ?_
      rintro e w3 ⟨v3, rfl, own3, kp3⟩
      have O3 := Lib.hid own3
      have K3 : Hid (KeepT 9 w w3) := Lib.hid (KeepT.trans' (KK2.out) kp3)
      have hl3 := namesGs_len kind (nameK kind xk (namesGs kind acc (l.take j)) xs) body
      have h7 : w3.cell? ⟨b, off + j * 8 + 7, none⟩ = some (.slice eA els.length ec) := cell_keep O3.out.2 D7.out
      obtain ⟨A3, c3, rfl, _⟩ := own3.slice
      clear own3 kp3
      go_wp2_with fail
      refine (VE.out eA ec kind w0 _ _ _ RE.out O3.out he2 he3 (by omega)).mono ?_
      rintro e w4 ⟨v4, rfl, own4, kp4⟩
      rw [← HN.out] at own4
      have O4 := Lib.hid (And.intro own4 (KeepT.trans' K3.out kp4))
      obtain ⟨A4, c4, rfl, _⟩ := own4.slice
      clear own4 kp4 h7
      go_wp2_with fail
      go_roundw
      case rel => exact ⟨j + 1, by omega, by go_num, A4, c4, rfl, O4⟩
      case measure => simp [intOf]; omega
theorem spec_l04Names (l : List St) : NmC l := by
  induction hN : snodess l using Nat.strongRecOn generalizing l with
  | ind N ih =>
    refine spec_l04Names_at l fun g hg t k s body els e => ?_
    have := snodess_le hg
    have h2 : snodes g = 1 + snodess body + snodess els := by rw [e, snodes]
    exact ⟨ih _ (by omega) body rfl, ih _ (by omega) els rfl⟩
def namesR (kind : Int) (l : List St) : List ByteArray := if snodess l ≤ 60 then namesGs kind [] l else []
theorem namesR_yes {kind : Int} {l : List St} (h : snodess l ≤ 60) : namesR kind l = namesGs kind [] l := by simp [namesR, h]
theorem namesR_no {kind : Int} {l : List St} (h : ¬ snodess l ≤ 60) : namesR kind l = [] := by simp [namesR, h]
theorem namesR_len (kind : Int) (l : List St) : (namesR kind l).length ≤ 60 := by
  unfold namesR
  split
  · have := namesGs_len kind [] l; simp at this; omega
  · simp
set_option maxHeartbeats 400000 in
theorem spec_NamesIn (l : List St) (A : Option Addr) (c : Nat) (kind : Int) (w : World) (row : StRow AnyB w A l) (hl : l.length ≤ c) (hc : c ≤ maxLen) :
    Calls Tryd.prog 30 #[.slice A l.length c, .int .i64 kind] w fun e w' => ∃ v', e = .returned v' ∧ OwnStrs w w' v' (namesR kind l) := by
  have RW := Lib.hid row
  clear row
  by_cases h : snodess l ≤ 60
  · rw [namesR_yes h]
    have hcut : cut0 (60 - (snodess l : Int)) = 60 - (snodess l : Int) := cut0_pos (by omega)
    have HC := Lib.hid hcut
    have hd : decide ((60 : Int) - (snodess l : Int) < 0) = false := decide_no (by omega)
    clear hcut
    go_enter Tryd.func30, Tryd.ntmps30
    go_wp2_with fail
    refine (spec_l04Count l A c 60 _ RW.out hl hc (by omega) (by omega)).mono ?_
    rintro e w1 ⟨rfl, q1⟩
    have B1 := Lib.hid q1.below
    rw [HC.out]
    clear q1
    go_wp2_with fail
    refine (spec_l04Names l A c kind w _ _ [] RW.out (OwnStrs.empty B1.out) hl hc (by simp; omega)).mono ?_
    rintro e w2 ⟨v2, rfl, own2, kp2⟩
    have O2 := Lib.hid own2
    obtain ⟨A2, c2, rfl, _⟩ := own2.slice
    clear own2 kp2
    go_wp2_with fail
    go_ret
    exact ⟨_, rfl, O2.out⟩
  · rw [namesR_no h]
    have HC := Lib.hid (cut0_neg (n := 60 - (snodess l : Int)) (by omega))
    go_enter Tryd.func30, Tryd.ntmps30
    go_wp2_with fail
    refine (spec_l04Count l A c 60 _ RW.out hl hc (by omega) (by omega)).mono ?_
    rintro e w1 ⟨rfl, q1⟩
    have B1 := Lib.hid q1.below
    rw [HC.out]
    clear q1
    go_wp2_with fail
    go_ret
    exact ⟨_, rfl, OwnStrs.empty B1.out⟩
end Go.Proofs.YtefcdpkficojgaaDoor
