/- Measuring statements: the contracts of the laws' helpers. -/
import Derived.Test.YtefcdpkficojgaaDoorStmts
import Derived.Test.YtefcdpkficojgaaDoorTermHelp
namespace Go.Proofs.YtefcdpkficojgaaDoor
open Go.RowKit
set_option linter.unusedVariables false

abbrev SgC (g : St) : Prop := ∀ (x : V8) (w : World) (left : Int), StIs AnyB w x g → 0 ≤ left → left ≤ 1048576 →
  Calls Tryd.prog 63 #[.agg #[.int .i64 x.k, .string x.s, .int .i64 x.tk, .int .i64 x.tn, .string x.ts, .slice x.tA x.tm x.tc, .slice x.bA x.bm x.bc, .slice x.eA x.em x.ec], .int .i64 left] w fun e w' => e = .returned (.int .i64 (cut0 (left - (totG g : Int)))) ∧ Below w.heap.size w w'
set_option maxHeartbeats 400000 in
theorem laws_szStmtS (l : List St) (ih : ∀ g ∈ l, SgC g) (A : Option Addr) (c : Nat) (w : World) (left : Int) (row : StRow AnyB w A l) (hl : l.length ≤ c) (hc : c ≤ maxLen) (h0 : 0 ≤ left) (h1 : left ≤ 1048576) :
    Calls Tryd.prog 17 #[.slice A l.length c, .int .i64 left] w fun e w' => e = .returned (.int .i64 (cut0 (left - (totGs l : Int)))) ∧ Below w.heap.size w w' := by
  unfold maxLen at hc
  have IH := Lib.hid ih
  have RW := Lib.hid row
  have hlen := totGs_len l
  clear ih row
  by_cases g0 : left - (l.length : Int) < 0
  · have F := Lib.hid (cut0_neg (n := left - (totGs l : Int)) (by omega))
    go_enter Tryd.func17, Tryd.ntmps17
    go_wp2_with fail
    go_ret
    exact ⟨ret_int F.out.symm, Below.refl _ _⟩
  · go_enter Tryd.func17, Tryd.ntmps17
    go_wp2_with fail
    go_loopw [1, 5] (fun u i wr => ∃ (k : Nat) (m : Int), k ≤ l.length ∧ i = .int .i64 k ∧ u = .int .i64 m ∧ 0 ≤ m ∧ m ≤ left ∧ Hid (m = left - ((l.length : Int) - (k : Int)) - (totGs (l.take k) : Int)) ∧ Below w.heap.size w wr) (fun _ i _ => l.length - (intOf i).toNat)
    case atStart => exact ⟨0, _, Nat.zero_le _, rfl, rfl, by omega, by omega, Lib.hid (by simp [totGs]), Below.refl _ _⟩
    case round =>
      obtain ⟨k, m, hk, rfl, rfl, hm0, hm1, HM, hb⟩ := hrel
      have HB := Lib.hid hb
      clear hb
      by_cases hlt : k < l.length
      · obtain ⟨b, off, x, rfl, _, ⟨d0, d1, d2, d3, d4, d5, d6, d7⟩, ht⟩ := rd_stmt (RW.out.belowA HB.out) hlt
        have HT := Lib.hid ht
        have HS := Lib.hid (totGs_take l k hlt)
        have HD := Lib.hid (totGs_drop l (k + 1) hlt)
        have h0k : (0 : Int) ≤ (k : Int) := by omega
        clear ht hlen
        go_wp2_with fail
        refine (IH.out _ (List.getElem_mem hlt) x _ m HT.out hm0 (by omega)).mono ?_
        rintro e w1 ⟨rfl, b1⟩
        have B1 := Lib.hid (HB.out.trans (b1.mono HB.out.size))
        clear b1
        by_cases g1 : m - (totG l[k] : Int) < 0
        · rw [cut0_neg g1]
          go_wp2_with fail
          go_ret
          refine ⟨ret_int ?_, B1.out⟩
          have e1 := HS.out
          have e2 := HD.out
          have e3 := HM.out
          exact (cut0_neg (by omega)).symm
        · rw [cut0_pos (by omega)]
          go_wp2_with fail
          go_roundw
          case rel =>
            refine ⟨k + 1, m - (totG l[k] : Int), by omega, by go_num, rfl, by omega, by omega, Lib.hid ?_, B1.out⟩
            have e1 := HS.out
            have e3 := HM.out
            omega
          case measure => simp [intOf]; omega
      · go_wp2_with fail
        go_ret
        refine ⟨ret_int ?_, HB.out⟩
        have e3 := HM.out
        rw [List.take_of_length_le (by omega)] at e3
        rw [cut0_pos (by omega)]
        omega
set_option maxHeartbeats 800000 in
theorem laws_szStmt (g : St) : SgC g := by
  induction hN : snodes g using Nat.strongRecOn generalizing g with
  | ind N ih =>
    intro x w left hg h0 h1
    obtain ⟨t, body, els, rfl, hk, hs, ht, hb1, hb2, hb3, rb, he1, he2, he3, re⟩ := hg.inv
    have IB : Hid (∀ y ∈ body, SgC y) := Lib.hid fun y hy => ih (snodes y) (by rw [← hN]; exact body_lt hy) y rfl
    have IE : Hid (∀ y ∈ els, SgC y) := Lib.hid fun y hy => ih (snodes y) (by rw [← hN]; exact else_lt hy) y rfl
    have HTT : Hid (totG (.mk x.k x.s t body els) = x.s.size + totT t + totGs body + totGs els) := Lib.hid (by rw [totG])
    have HT := Lib.hid ht
    have RB := Lib.hid rb
    have RE := Lib.hid re
    obtain ⟨k, s, tk, tn, ts, tA, tm, tc, bA, bm, bc, eA, em, ec⟩ := x
    simp only at hs hb1 hb2 hb3 he1 he2 he3 RB RE HTT
    simp only
    subst hb1 he1
    unfold maxLen at hs
    clear ih hN hg ht rb re hk
    by_cases g0 : left - (s.size : Int) < 0
    · have F := Lib.hid (cut0_neg (n := left - (totG (.mk k s t body els) : Int)) (by rw [HTT.out]; omega))
      go_enter Tryd.func63, Tryd.ntmps63
      go_wp2_with fail
      go_ret
      exact ⟨ret_int F.out.symm, (by repeat' (first | exact Below.refl _ _ | exact Nat.le_refl _ | (refine Below.alloc ?_ ?_ _) | (refine Below.setCell ?_ ?_ _) | (refine Below.drew ?_) | (refine below_drewN ?_ _) | assumption | (simp; done) | (simp; omega)))⟩
    have g0' : 0 ≤ left - (s.size : Int) := by omega
    go_enter Tryd.func63, Tryd.ntmps63
    go_wp2_with fail
    refine (laws_szTerm t tk tn ts tA tm tc _ (left - (s.size : Int)) (HT.out.belowA (by repeat' (first | exact Below.refl _ _ | exact Nat.le_refl _ | (refine Below.alloc ?_ ?_ _) | (refine Below.setCell ?_ ?_ _) | (refine Below.drew ?_) | (refine below_drewN ?_ _) | assumption | (simp; done) | (simp; omega)))) g0' (by omega)).mono ?_
    rintro e w1 ⟨rfl, b1⟩
    have B1 : Below w.heap.size w w1 := Below.trans (by repeat' (first | exact Below.refl _ _ | exact Nat.le_refl _ | (refine Below.alloc ?_ ?_ _) | (refine Below.setCell ?_ ?_ _) | (refine Below.drew ?_) | (refine below_drewN ?_ _) | assumption | (simp; done) | (simp; omega))) (b1.mono (by simp))
    have H1 := Lib.hid B1
    obtain ⟨hcell, hfree⟩ := old_cells b1
    simp only [World.size_alloc] at hcell hfree
    have hz1 : w.heap.size < w1.heap.size := by have := b1.size; simp at this; omega
    clear b1 B1
    by_cases g1 : left - (s.size : Int) - (totT t : Int) < 0
    · rw [cut0_neg g1]
      go_wp2_with fail
      go_ret
      exact ⟨ret_int (by rw [HTT.out]; exact (cut0_neg (by omega)).symm), H1.out⟩
    rw [cut0_pos (by omega)]
    have g1' : 0 ≤ left - (s.size : Int) - (totT t : Int) := by omega
    go_wp2_with fail
    refine (laws_szStmtS body IB.out bA bc _ (left - (s.size : Int) - (totT t : Int)) (RB.out.belowA H1.out) hb2 hb3 g1' (by omega)).mono ?_
    rintro e w2 ⟨rfl, b2⟩
    have H2 := Lib.hid (below_then H1.out b2)
    obtain ⟨hcell2, hfree2⟩ := old_cells b2
    clear b2
    by_cases g2 : left - (s.size : Int) - (totT t : Int) - (totGs body : Int) < 0
    · rw [cut0_neg g2]
      go_wp2_with fail
      go_ret
      exact ⟨ret_int (by rw [HTT.out]; exact (cut0_neg (by omega)).symm), H2.out⟩
    rw [cut0_pos (by omega)]
    have g2' : 0 ≤ left - (s.size : Int) - (totT t : Int) - (totGs body : Int) := by omega
    go_wp2_with fail
    refine (laws_szStmtS els IE.out eA ec _ (left - (s.size : Int) - (totT t : Int) - (totGs body : Int)) (RE.out.belowA H2.out) he2 he3 g2' (by omega)).mono ?_
    rintro e w3 ⟨rfl, b3⟩
    have H3 := Lib.hid (below_then H2.out b3)
    clear b3
    by_cases g3 : left - (s.size : Int) - (totT t : Int) - (totGs body : Int) - (totGs els : Int) < 0
    · rw [cut0_neg g3]
      go_wp2_with fail
      go_ret
      exact ⟨ret_int (by rw [HTT.out]; exact (cut0_neg (by omega)).symm), H3.out⟩
    rw [cut0_pos (by omega)]
    go_wp2_with fail
    go_ret
    exact ⟨ret_int (by rw [HTT.out, cut0_pos (by omega)]; omega), H3.out⟩
end Go.Proofs.YtefcdpkficojgaaDoor
