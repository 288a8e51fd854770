/- Lemmas for the row. -/
import Derived.Test.YtnmblfonmfjoeaaGreatDoorKc17
namespace Go.Proofs.YtnmblfonmfjoeaaGreatDoor
open Go.RowKit
set_option maxHeartbeats 1600000
set_option linter.unusedVariables false
theorem spec_l04Ok (l : List St) (A : Option Addr) (c : Nat) (w : World) (row : StRow AnyB w A l) (hl : l.length ≤ c) (hc : c ≤ maxLen) (htot : totGs l ≤ 1048577) :
  Calls Tryz.prog 82 #[.slice A l.length c] w fun e w' => e = .returned (.bool (fitGs 6 60 l)) ∧ Below w.heap.size w w' := by
 have RW := qh row
 clear row
 by_cases h : snodess l ≤ 60
 ·have HC := qh (cut0_pos (n := 60 - (snodess l : Int)) (by omega))
  have hd : decide ((60 : Int) - (snodess l : Int) ≥ 0) = true := decide_eq_true (by omega)
  have HF : Hid (fitGs 6 60 l = rightGs 6 l) := qh (by unfold fitGs; rw [decide_eq_true h, Bool.and_true])
  have hge : (0 : Int) ≤ 60 - (snodess l : Int) := by omega
  go_enter Tryz.func82, Tryz.ntmps82
  go_wp2_with fail
  refine (spec_l04Count l A c 60 _ RW.out hl hc (by omega) (by omega)).mono ?_
  rintro e w1 ⟨rfl, q1⟩
  have B1 := qh q1.below
  rw [HC.out]
  clear q1
  go_wp2_with fail
  refine (spec_l04Right l A c 6 _ (RW.out.belowA B1.out) hl hc htot (by omega)).mono ?_
  rintro e w2 ⟨rfl, b2⟩
  have B2 := qh (below_then B1.out b2)
  clear b2
  go_wp2_with fail
  go_ret
  exact ⟨ret_bool HF.out.symm, B2.out⟩
 ·have HC := qh (cut0_neg (n := 60 - (snodess l : Int)) (by omega))
  have HF : Hid (fitGs 6 60 l = false) := qh (fit_no2 (by omega))
  go_enter Tryz.func82, Tryz.ntmps82
  go_wp2_with fail
  refine (spec_l04Count l A c 60 _ RW.out hl hc (by omega) (by omega)).mono ?_
  rintro e w1 ⟨rfl, q1⟩
  have B1 := qh q1.below
  rw [HC.out]
  clear q1
  go_wp2_with fail
  go_ret
  exact ⟨ret_bool HF.out.symm, B1.out⟩
def nameB (s : ByteArray) : Bool := isNameL s.data.toList
def namesB (m : Nat) (ss : List ByteArray) : Bool := decide (ss.length ≤ m) && ss.all nameB
theorem namesB_far {m : Nat} {ss : List ByteArray} (h : m < ss.length) : namesB m ss = false := by
 unfold namesB; rw [decide_no (by omega)]; rfl
theorem namesB_no {m j : Nat} {ss : List ByteArray} (hj : j < ss.length) (h : isNameL ss[j].data.toList = false) : namesB m ss = false := by
 unfold namesB
 rw [show ss.all nameB = false from List.all_eq_false.2 ⟨ss[j], List.getElem_mem hj, by unfold nameB; simp [h]⟩, Bool.and_false]
theorem namesB_yes {m : Nat} {ss : List ByteArray} (h : ss.length ≤ m) (h2 : ss.all nameB = true) : namesB m ss = true := by
 unfold namesB; rw [h2, decide_eq_true h]; rfl
theorem all_next {α : Type} {f : α → Bool} {l : List α} {j : Nat} (hj : j < l.length) (h : (l.take j).all f = true) (e : f l[j] = true) : (l.take (j + 1)).all f = true := by
 have e1 : l.take (j + 1) = l.take j ++ [l[j]] := List.take_succ_eq_append_getElem hj
 rw [e1, List.all_append, h]; simp [e]
theorem all_not {α : Type} {f : α → Bool} {l : List α} {j : Nat} (hj : j < l.length) (e : f l[j] = false) : l.all f = false := List.all_eq_false.2 ⟨l[j], List.getElem_mem hj, by simp [e]⟩
theorem spec_l05Names (ss : List ByteArray) (A : Option Addr) (c m : Nat) (w : World) (rd : Rd w 1 A ss.length (ss.map Value.string)) (hl : ss.length ≤ c) (hc : c ≤ maxLen) :
  Calls Tryz.prog 80 #[.slice A ss.length c, .int .i64 (m : Int)] w fun e w' => e = .returned (.bool (namesB m ss)) ∧ w = w' := by
 unfold maxLen at hc
 have RD := qh rd
 clear rd
 by_cases hf : m < ss.length
 ·rw [namesB_far hf]
  go_enter Tryz.func80, Tryz.ntmps80
  go_wp2_with fail
  go_ret
  exact ⟨rfl, rfl⟩
 go_enter Tryz.func80, Tryz.ntmps80
 go_wp2_with fail
 go_loop [5] (fun i => ∃ k : Nat, k ≤ ss.length ∧ i = .int .i64 k ∧ Hid ((ss.take k).all nameB = true)) (fun i => ss.length - (intOf i).toNat)
 case atStart => exact ⟨0, Nat.zero_le _, rfl, qh (by simp)⟩
 case round =>
  obtain ⟨k, hk, rfl, HT⟩ := hrel
  by_cases hlt : k < ss.length
  ·obtain ⟨b, off, rfl, hcell⟩ := rd_str RD.out hlt
   have h0k : (0 : Int) ≤ (k : Int) := by omega
   cases hn : isNameL ss[k].data.toList with
   | false =>
    have F := qh (namesB_no (m := m) hlt hn)
    have HN := qh hn
    clear hn
    go_wp2_with (go_at_call 81; refine (spec_IsName _ _).mono ?_; rintro e w' ⟨rfl, rfl⟩; rw [HN.out])
    go_ret
    exact ⟨ret_bool F.out.symm, rfl⟩
   | true =>
    have T := qh (all_next hlt HT.out (by unfold nameB; exact hn))
    have HN := qh hn
    clear hn
    go_wp2_with (go_at_call 81; refine (spec_IsName _ _).mono ?_; rintro e w' ⟨rfl, rfl⟩; rw [HN.out])
    go_round
    case rel => exact ⟨k + 1, by omega, by go_num, T⟩
    case measure => simp [intOf]; omega
  ·have T : Hid (namesB m ss = true) := qh (namesB_yes (by omega) (by have := HT.out; rwa [List.take_of_length_le (by omega)] at this))
   go_wp2_with fail
   go_ret
   exact ⟨ret_bool T.out.symm, rfl⟩
theorem impl_areNames (ss : List ByteArray) (A : Option Addr) (c m : Nat) (w : World) (rd : Rd w 1 A ss.length (ss.map Value.string)) (hl : ss.length ≤ c) (hc : c ≤ maxLen) :
  Calls Tryz.prog 57 #[.slice A ss.length c, .int .i64 (m : Int)] w fun e w' => e = .returned (.bool (namesB m ss)) ∧ w = w' := by
 unfold maxLen at hc
 have RD := qh rd
 clear rd
 by_cases hf : m < ss.length
 ·rw [namesB_far hf]
  go_enter Tryz.func57, Tryz.ntmps57
  go_wp2_with fail
  go_ret
  exact ⟨rfl, rfl⟩
 go_enter Tryz.func57, Tryz.ntmps57
 go_wp2_with fail
 go_loop [13] (fun i => ∃ k : Nat, k ≤ ss.length ∧ i = .int .i64 k ∧ Hid ((ss.take k).all nameB = true)) (fun i => ss.length - (intOf i).toNat)
 case atStart => exact ⟨0, Nat.zero_le _, rfl, qh (by simp)⟩
 case round =>
  obtain ⟨k, hk, rfl, HT⟩ := hrel
  by_cases hlt : k < ss.length
  ·obtain ⟨b, off, rfl, hcell⟩ := rd_str RD.out hlt
   have h0k : (0 : Int) ≤ (k : Int) := by omega
   cases hn : isNameL ss[k].data.toList with
   | false =>
    have F := qh (namesB_no (m := m) hlt hn)
    have HN := qh hn
    clear hn
    go_wp2_with (go_at_call 73; refine (impl_IsName _ _).mono ?_; rintro e w' ⟨rfl, rfl⟩; rw [HN.out])
    go_ret
    exact ⟨ret_bool F.out.symm, rfl⟩
   | true =>
    have T := qh (all_next hlt HT.out (by unfold nameB; exact hn))
    have HN := qh hn
    clear hn
    go_wp2_with (go_at_call 73; refine (impl_IsName _ _).mono ?_; rintro e w' ⟨rfl, rfl⟩; rw [HN.out])
    go_round
    case rel => exact ⟨k + 1, by omega, by go_num, T⟩
    case measure => simp [intOf]; omega
  ·have T : Hid (namesB m ss = true) := qh (namesB_yes (by omega) (by have := HT.out; rwa [List.take_of_length_le (by omega)] at this))
   go_wp2_with fail
   go_ret
   exact ⟨ret_bool T.out.symm, rfl⟩
noncomputable def okPr (p : Pr) : Bool := isNameL p.name.data.toList && fitGs 6 60 p.body
noncomputable def okPg (p : Pg) : Bool := namesB 6 p.globals && namesB 6 p.locks && decide (p.procs.length ≤ 8) && p.procs.all okPr
theorem okPg_g {p : Pg} (h : namesB 6 p.globals = false) : okPg p = false := by unfold okPg; rw [h]; simp
theorem okPg_l {p : Pg} (h : namesB 6 p.locks = false) : okPg p = false := by unfold okPg; rw [h]; simp
theorem okPg_m {p : Pg} (h : 8 < p.procs.length) : okPg p = false := by unfold okPg; rw [decide_no (by omega : ¬ p.procs.length ≤ 8)]; simp
theorem okPg_p {p : Pg} (h : p.procs.all okPr = false) : okPg p = false := by unfold okPg; rw [h]; simp
theorem okPg_yes {p : Pg} (h1 : namesB 6 p.globals = true) (h2 : namesB 6 p.locks = true) (h3 : p.procs.length ≤ 8) (h4 : p.procs.all okPr = true) : okPg p = true := by unfold okPg; rw [h1, h2, decide_eq_true h3, h4]; rfl
theorem tot_body {p : Pg} {k : Nat} (hk : k < p.procs.length) (h : totPg p ≤ 1048576) : totGs p.procs[k].body ≤ 1048577 := by
 have := totPrs_le (List.getElem_mem hk)
 simp only [totPg, totPr] at *
 omega
theorem spec_ProgOk (p : Pg) (x : V3) (w : World) (hp : PgIs w x p) (htot : totPg p ≤ 1048576) :
  Calls Tryz.prog 50 #[x.val p] w fun e w' => e = .returned (.bool (okPg p)) ∧ Below w.heap.size w w' := by
 obtain ⟨gA, gc, lA, lc, pA, pc⟩ := x
 have HP := qh hp
 have hpl := hp.p1
 have hpc := hp.p2
 have hgl := hp.g1
 have hgc := hp.g2
 have hll := hp.l1
 have hlc := hp.l2
 clear hp
 simp only at hpl hpc hgl hgc hll hlc
 unfold maxLen at hpc
 unfold V3.val
 simp only
 cases hg : namesB 6 p.globals with
 | false =>
  have F := qh (okPg_g hg)
  have HG := qh hg
  clear hg
  go_enter Tryz.func50, Tryz.ntmps50
  go_wp2_with fail
  refine (spec_l05Names p.globals gA gc 6 _ (HP.out.belowA zB).g3 hgl hgc).mono ?_
  rintro e w1 ⟨rfl, rfl⟩
  rw [HG.out]
  go_wp2_with fail
  go_ret
  exact ⟨ret_bool F.out.symm, zB⟩
 | true =>
 have HG := qh hg
 clear hg
 cases hg : namesB 6 p.locks with
 | false =>
  have F := qh (okPg_l hg)
  have HL := qh hg
  clear hg
  go_enter Tryz.func50, Tryz.ntmps50
  go_wp2_with fail
  refine (spec_l05Names p.globals gA gc 6 _ (HP.out.belowA zB).g3 hgl hgc).mono ?_
  rintro e w1 ⟨rfl, rfl⟩
  rw [HG.out]
  go_wp2_with fail
  refine (spec_l05Names p.locks lA lc 6 _ (HP.out.belowA zB).l3 hll hlc).mono ?_
  rintro e w1 ⟨rfl, rfl⟩
  rw [HL.out]
  go_wp2_with fail
  go_ret
  exact ⟨ret_bool F.out.symm, zB⟩
 | true =>
 have HL := qh hg
 clear hg
 by_cases hm : 8 < p.procs.length
 ·have F := qh (okPg_m hm)
  go_enter Tryz.func50, Tryz.ntmps50
  go_wp2_with fail
  refine (spec_l05Names p.globals gA gc 6 _ (HP.out.belowA zB).g3 hgl hgc).mono ?_
  rintro e w1 ⟨rfl, rfl⟩
  rw [HG.out]
  go_wp2_with fail
  refine (spec_l05Names p.locks lA lc 6 _ (HP.out.belowA zB).l3 hll hlc).mono ?_
  rintro e w1 ⟨rfl, rfl⟩
  rw [HL.out]
  go_wp2_with fail
  go_ret
  exact ⟨ret_bool F.out.symm, zB⟩
 go_enter Tryz.func50, Tryz.ntmps50
 go_wp2_with fail
 refine (spec_l05Names p.globals gA gc 6 _ (HP.out.belowA zB).g3 hgl hgc).mono ?_
 rintro e w1 ⟨rfl, rfl⟩
 rw [HG.out]
 go_wp2_with fail
 refine (spec_l05Names p.locks lA lc 6 _ (HP.out.belowA zB).l3 hll hlc).mono ?_
 rintro e w1 ⟨rfl, rfl⟩
 rw [HL.out]
 go_wp2_with fail
 go_loopw [3] (fun i wr => ∃ k : Nat, k ≤ p.procs.length ∧ i = .int .i64 k ∧ wr.cell? ⟨w.heap.size, 2, none⟩ = some (.slice pA p.procs.length pc) ∧ Below w.heap.size w wr ∧ Hid ((p.procs.take k).all okPr = true)) (fun i _ => p.procs.length - (intOf i).toNat)
 case atStart => exact ⟨0, Nat.zero_le _, rfl, by simp, zB, qh (by simp)⟩
 case round =>
  obtain ⟨k, hk, rfl, x2, hb, HT⟩ := hrel
  have HB := qh hb
  clear hb
  by_cases hlt : k < p.procs.length
  ·have HR := qh (HP.out.belowA HB.out).p3
   obtain ⟨b, off, y, rfl, d0, d1, hnm, hym, _, hbc, hcm, row⟩ := rd_proc HR.out hlt
   rw [hym] at d1
   have ROW := qh row
   have tb := tot_body hlt htot
   have h0k : (0 : Int) ≤ (k : Int) := by omega
   have X2 := qh x2
   clear row hym HR
   cases hn : isNameL y.s.data.toList with
   | false =>
    have F : Hid (okPg p = false) := qh (okPg_p (all_not hlt (by unfold okPr; rw [hnm, hn]; rfl)))
    have HN := qh hn
    clear hn hnm
    go_wp2_with (go_at_call 81; refine (spec_IsName _ _).mono ?_; rintro e w' ⟨rfl, rfl⟩; rw [HN.out])
    go_ret
    exact ⟨ret_bool F.out.symm, HB.out⟩
   | true =>
    have HN := qh hn
    clear hn
    cases hq : fitGs 6 60 p.procs[k].body with
    | false =>
     have F : Hid (okPg p = false) := qh (okPg_p (all_not hlt (by unfold okPr; rw [hnm, hq, Bool.and_false])))
     have HQ := qh hq
     clear hq hnm
     go_wp2_with (go_at_call 81; refine (spec_IsName _ _).mono ?_; rintro e w' ⟨rfl, rfl⟩; rw [HN.out])
     refine (spec_l04Ok p.procs[k].body y.A y.c _ ROW.out hbc hcm tb).mono ?_
     rintro e w1 ⟨rfl, b1⟩
     have B1 := qh (below_then HB.out b1)
     rw [HQ.out]
     clear b1
     go_wp2_with fail
     go_ret
     exact ⟨ret_bool F.out.symm, B1.out⟩
    | true =>
     have T := qh (all_next hlt HT.out (by unfold okPr; rw [hnm, HN.out, hq]; rfl))
     have HQ := qh hq
     clear hq hnm
     go_wp2_with (go_at_call 81; refine (spec_IsName _ _).mono ?_; rintro e w' ⟨rfl, rfl⟩; rw [HN.out])
     refine (spec_l04Ok p.procs[k].body y.A y.c _ ROW.out hbc hcm tb).mono ?_
     rintro e w1 ⟨rfl, b1⟩
     have B1 := qh (below_then HB.out b1)
     have Z2 := qh (cell_keep b1 X2.out)
     rw [HQ.out]
     clear b1
     go_wp2_with fail
     go_roundw
     case rel => exact ⟨k + 1, by omega, by go_num, Z2.out, B1.out, T⟩
     case measure => simp [intOf]; omega
  ·have T : Hid (okPg p = true) := qh (okPg_yes HG.out HL.out (by omega) (by have := HT.out; rwa [List.take_of_length_le (by omega)] at this))
   go_wp2_with fail
   go_ret
   exact ⟨ret_bool T.out.symm, HB.out⟩
theorem impl_ProgOk (p : Pg) (x : V3) (w : World) (hp : PgIs w x p) (htot : totPg p ≤ 1048576) :
  Calls Tryz.prog 44 #[x.val p] w fun e w' => e = .returned (.bool (okPg p)) ∧ Below w.heap.size w w' := by
 obtain ⟨gA, gc, lA, lc, pA, pc⟩ := x
 have HP := qh hp
 have hpl := hp.p1
 have hpc := hp.p2
 have hgl := hp.g1
 have hgc := hp.g2
 have hll := hp.l1
 have hlc := hp.l2
 clear hp
 simp only at hpl hpc hgl hgc hll hlc
 unfold maxLen at hpc
 unfold V3.val
 simp only
 cases hg : namesB 6 p.globals with
 | false =>
  have F := qh (okPg_g hg)
  have HG := qh hg
  clear hg
  go_enter Tryz.func44, Tryz.ntmps44
  go_wp2_with fail
  refine (impl_areNames p.globals gA gc 6 _ (HP.out.belowA zB).g3 hgl hgc).mono ?_
  rintro e w1 ⟨rfl, rfl⟩
  rw [HG.out]
  go_wp2_with fail
  go_ret
  exact ⟨ret_bool F.out.symm, zB⟩
 | true =>
 have HG := qh hg
 clear hg
 cases hg : namesB 6 p.locks with
 | false =>
  have F := qh (okPg_l hg)
  have HL := qh hg
  clear hg
  go_enter Tryz.func44, Tryz.ntmps44
  go_wp2_with fail
  refine (impl_areNames p.globals gA gc 6 _ (HP.out.belowA zB).g3 hgl hgc).mono ?_
  rintro e w1 ⟨rfl, rfl⟩
  rw [HG.out]
  go_wp2_with fail
  refine (impl_areNames p.locks lA lc 6 _ (HP.out.belowA zB).l3 hll hlc).mono ?_
  rintro e w1 ⟨rfl, rfl⟩
  rw [HL.out]
  go_wp2_with fail
  go_ret
  exact ⟨ret_bool F.out.symm, zB⟩
 | true =>
 have HL := qh hg
 clear hg
 by_cases hm : 8 < p.procs.length
 ·have F := qh (okPg_m hm)
  go_enter Tryz.func44, Tryz.ntmps44
  go_wp2_with fail
  refine (impl_areNames p.globals gA gc 6 _ (HP.out.belowA zB).g3 hgl hgc).mono ?_
  rintro e w1 ⟨rfl, rfl⟩
  rw [HG.out]
  go_wp2_with fail
  refine (impl_areNames p.locks lA lc 6 _ (HP.out.belowA zB).l3 hll hlc).mono ?_
  rintro e w1 ⟨rfl, rfl⟩
  rw [HL.out]
  go_wp2_with fail
  go_ret
  exact ⟨ret_bool F.out.symm, zB⟩
 go_enter Tryz.func44, Tryz.ntmps44
 go_wp2_with fail
 refine (impl_areNames p.globals gA gc 6 _ (HP.out.belowA zB).g3 hgl hgc).mono ?_
 rintro e w1 ⟨rfl, rfl⟩
 rw [HG.out]
 go_wp2_with fail
 refine (impl_areNames p.locks lA lc 6 _ (HP.out.belowA zB).l3 hll hlc).mono ?_
 rintro e w1 ⟨rfl, rfl⟩
 rw [HL.out]
 go_wp2_with fail
 go_loopw [25] (fun i wr => ∃ k : Nat, k ≤ p.procs.length ∧ i = .int .i64 k ∧ Hid (Below w.heap.size w wr ∧ (p.procs.take k).all okPr = true)) (fun i _ => p.procs.length - (intOf i).toNat)
 case atStart => exact ⟨0, Nat.zero_le _, rfl, qh ⟨zB, by simp⟩⟩
 case round =>
  obtain ⟨k, hk, rfl, HT⟩ := hrel
  have HB := qh HT.out.1
  by_cases hlt : k < p.procs.length
  ·have HR := qh (HP.out.belowA HB.out).p3
   obtain ⟨b, off, y, rfl, d0, d1, hnm, hym, _, hbc, hcm, row⟩ := rd_proc HR.out hlt
   rw [hym] at d1
   have ROW := qh row
   have tb := tot_body hlt htot
   have h0k : (0 : Int) ≤ (k : Int) := by omega
   have hbl := cell_lt d0
   have BOXQ : Hid (RoomAt ((wr.alloc (.cells #[.string y.s, .slice y.A p.procs[k].body.length y.c] 40)).alloc (.cells #[.int .i64 60] 3)) (wr.heap.size + 1) ((60 : Nat) : Int)) := qh (by
    have := heap_alloc_new (wr.alloc (.cells #[.string y.s, .slice y.A p.procs[k].body.length y.c] 40)) (.cells #[.int .i64 60] 3)
    rw [show (wr.alloc (.cells #[.string y.s, .slice y.A p.procs[k].body.length y.c] 40)).heap.size = wr.heap.size + 1 from by simp] at this
    exact this)
   clear row hym HR
   cases hn : isNameL y.s.data.toList with
   | false =>
    have F : Hid (okPg p = false) := qh (okPg_p (all_not hlt (by unfold okPr; rw [hnm, hn]; rfl)))
    have HN := qh hn
    clear hn hnm
    go_wp2_with (go_at_call 73; refine (impl_IsName _ _).mono ?_; rintro e w' ⟨rfl, rfl⟩; rw [HN.out])
    go_ret
    exact ⟨ret_bool F.out.symm, Below.alloc (Below.alloc HB.out HB.out.size _) (by have := HB.out.size; simp; omega) _⟩
   | true =>
    have HN := qh hn
    clear hn
    cases hq : fitGs 6 60 p.procs[k].body with
    | false =>
     have F : Hid (okPg p = false) := qh (okPg_p (all_not hlt (by unfold okPr; rw [hnm, hq, Bool.and_false])))
     have HQ := qh hq
     clear hq hnm
     go_wp2_with (go_at_call 73; refine (impl_IsName _ _).mono ?_; rintro e w' ⟨rfl, rfl⟩; rw [HN.out])
     refine (impl_stmtsFit p.procs[k].body y.A y.c 6 60 (wr.heap.size + 1) _ (ROW.out.keep (fun _ hp _ => (Below.alloc (Below.alloc (Below.refl wr.heap.size wr) (Nat.le_refl _) _) (by simp) _).cell hp) (fun b hb _ => by omega)) hbc hcm tb (by omega) (by omega) BOXQ.out).mono ?_
     rintro e w1 ⟨rfl, k1, _⟩
     have B1 : Hid (Below w.heap.size w w1) := qh (Below.trans (Below.alloc (Below.alloc HB.out HB.out.size _) (by have := HB.out.size; simp; omega) _) (k1.below (by have := HB.out.size; simp; omega) (fun b hb => by have := HB.out.size; omega)))
     rw [HQ.out]
     clear k1
     go_wp2_with fail
     go_ret
     exact ⟨ret_bool F.out.symm, B1.out⟩
    | true =>
     have T := qh (all_next hlt HT.out.2 (by unfold okPr; rw [hnm, HN.out, hq]; rfl))
     have HQ := qh hq
     clear hq hnm
     go_wp2_with (go_at_call 73; refine (impl_IsName _ _).mono ?_; rintro e w' ⟨rfl, rfl⟩; rw [HN.out])
     refine (impl_stmtsFit p.procs[k].body y.A y.c 6 60 (wr.heap.size + 1) _ (ROW.out.keep (fun _ hp _ => (Below.alloc (Below.alloc (Below.refl wr.heap.size wr) (Nat.le_refl _) _) (by simp) _).cell hp) (fun b hb _ => by omega)) hbc hcm tb (by omega) (by omega) BOXQ.out).mono ?_
     rintro e w1 ⟨rfl, k1, _⟩
     have B1 : Hid (Below w.heap.size w w1) := qh (Below.trans (Below.alloc (Below.alloc HB.out HB.out.size _) (by have := HB.out.size; simp; omega) _) (k1.below (by have := HB.out.size; simp; omega) (fun b hb => by have := HB.out.size; omega)))
     rw [HQ.out]
     clear k1
     go_wp2_with fail
     go_roundw
     case rel => exact ⟨k + 1, by omega, by go_num, qh ⟨B1.out, T.out⟩⟩
     case measure => simp [intOf]; omega
  ·have T : Hid (okPg p = true) := qh (okPg_yes HG.out HL.out (by omega) (by have := HT.out.2; rwa [List.take_of_length_le (by omega)] at this))
   go_wp2_with fail
   go_ret
   exact ⟨ret_bool T.out.symm, HB.out⟩
def headK (gl lo pr : List ByteArray) (k : Int) (acc : List ByteArray) (s : ByteArray) : List ByteArray :=
 if k = 1 then addUnk gl acc s else if k = 6 ∨ k = 7 then addUnk lo acc s else if k = 4 ∨ k = 5 then addUnk pr acc s else acc
def readK (gl acc reads : List ByteArray) : List ByteArray := reads.foldl (addUnk gl) acc
theorem readK_nil (gl acc : List ByteArray) : readK gl acc [] = acc := rfl
theorem readK_take (gl acc reads : List ByteArray) (m : Nat) (h : m < reads.length) : readK gl acc (reads.take (m + 1)) = addUnk gl (readK gl acc (reads.take m)) reads[m] := by
 have e : reads.take (m + 1) = reads.take m ++ [reads[m]] := List.take_succ_eq_append_getElem h
 unfold readK
 rw [e, List.foldl_append]; rfl
theorem readK_len (gl acc reads : List ByteArray) : (readK gl acc reads).length ≤ acc.length + reads.length := by
 induction reads generalizing acc with
 | nil => simp [readK]
 | cons x r ih =>
  have h1 := addUnk_len gl acc x
  have h2 := ih (addUnk gl acc x)
  have h3 : readK gl acc (x :: r) = readK gl (addUnk gl acc x) r := rfl
  rw [h3, List.length_cons]; omega
theorem headK_len (gl lo pr : List ByteArray) (k : Int) (acc : List ByteArray) (s : ByteArray) : (headK gl lo pr k acc s).length ≤ acc.length + 1 := by
 unfold headK
 have h1 := addUnk_len gl acc s
 have h2 := addUnk_len lo acc s
 have h3 := addUnk_len pr acc s
 repeat' split
 all_goals omega
mutual
def unkG (gl lo pr acc : List ByteArray) : St → List ByteArray
 | .mk k s t b e => unkGs gl lo pr (unkGs gl lo pr (readK gl (headK gl lo pr k acc s) (readsR t)) b) e
def unkGs (gl lo pr acc : List ByteArray) : List St → List ByteArray
 | [] => acc
 | g :: r => unkGs gl lo pr (unkG gl lo pr acc g) r
end
theorem unkG_mk (gl lo pr acc : List ByteArray) (k : Int) (s : ByteArray) (t : Tm) (b e : List St) : unkG gl lo pr acc (.mk k s t b e) = unkGs gl lo pr (unkGs gl lo pr (readK gl (headK gl lo pr k acc s) (readsR t)) b) e := by rw [unkG]
theorem unkGs_append (gl lo pr acc : List ByteArray) (l r : List St) : unkGs gl lo pr acc (l ++ r) = unkGs gl lo pr (unkGs gl lo pr acc l) r := by
 induction l generalizing acc with
 | nil => simp [unkGs]
 | cons t l ih => rw [List.cons_append, unkGs, unkGs, ih]
theorem unkGs_take (gl lo pr acc : List ByteArray) (l : List St) (j : Nat) (h : j < l.length) : unkGs gl lo pr acc (l.take (j + 1)) = unkG gl lo pr (unkGs gl lo pr acc (l.take j)) l[j] := by
 have e : l.take (j + 1) = l.take j ++ [l[j]] := List.take_succ_eq_append_getElem h
 rw [e, unkGs_append]; simp [unkGs]
mutual
theorem unkG_len (gl lo pr acc : List ByteArray) : (g : St) → (unkG gl lo pr acc g).length ≤ acc.length + 2 * (1 + totG g)
 | .mk k s t b e => by
  rw [unkG_mk, totG]
  have h1 := headK_len gl lo pr k acc s
  have h2 := readK_len gl (headK gl lo pr k acc s) (readsR t)
  have h3 := readsR_len t
  have h4 := nodes_tot t
  have h5 := unkGs_len gl lo pr (readK gl (headK gl lo pr k acc s) (readsR t)) b
  have h6 := unkGs_len gl lo pr (unkGs gl lo pr (readK gl (headK gl lo pr k acc s) (readsR t)) b) e
  omega
theorem unkGs_len (gl lo pr acc : List ByteArray) : (l : List St) → (unkGs gl lo pr acc l).length ≤ acc.length + 2 * totGs l
 | [] => by rw [unkGs, totGs]; omega
 | g :: r => by
  rw [unkGs, totGs]
  have h1 := unkG_len gl lo pr acc g
  have h2 := unkGs_len gl lo pr (unkG gl lo pr acc g) r
  omega
end
theorem totGs_split (l : List St) (j : Nat) (h : j < l.length) : totGs (l.take j) + (1 + totG l[j]) ≤ totGs l := by
 have e : totGs l = totGs (l.take j) + totGs (l.drop j) := by rw [← totGs_append, List.take_append_drop]
 rw [List.drop_eq_getElem_cons h, totGs] at e
 omega
mutual
def quietG : St → Prop
 | .mk k _ t b e => (k ≠ 1 → k ≠ 2 → k ≠ 3 → readsR t = []) ∧ quietGs b ∧ quietGs e
def quietGs : List St → Prop
 | [] => True
 | g :: r => quietG g ∧ quietGs r
end
theorem quietGs_mem {l : List St} (h : quietGs l) {g : St} (hg : g ∈ l) : quietG g := by
 induction l with
 | nil => cases hg
 | cons y r ih =>
  rw [quietGs] at h
  rcases List.mem_cons.1 hg with rfl | hg
  ·exact h.1
  ·exact ih h.2 hg
theorem quietGs_of {l : List St} (h : ∀ g ∈ l, quietG g) : quietGs l := by
 induction l with
 | nil => rw [quietGs]; trivial
 | cons y r ih => rw [quietGs]; exact ⟨h y (by simp), ih fun g hg => h g (by simp [hg])⟩
theorem rightGs_mem {deep : Nat} {l : List St} (h : rightGs deep l = true) {g : St} (hg : g ∈ l) : rightG deep g = true := by
 induction l with
 | nil => cases hg
 | cons y r ih =>
  rw [rightGs, Bool.and_eq_true] at h
  rcases List.mem_cons.1 hg with rfl | hg
  ·exact h.1
  ·exact ih h.2 hg
theorem readsR_zero : readsR zeroTm = [] := by
 apply readsR_no
 unfold zeroTm
 rw [okT_more (by decide) (by decide)]
 rfl
theorem snodess_nil {l : List St} (h : snodess l = 0) : l = [] := by
 cases l with
 | nil => rfl
 | cons g r =>
  obtain ⟨k, s, t, b, e⟩ := g
  rw [snodess, snodes] at h; omega
theorem shape_zero {k : Int} {s : ByteArray} {t : Tm} {b e : List St} (h : shapeG (.mk k s t b e) = true) (h1 : k ≠ 1) (h2 : k ≠ 2) (h3 : k ≠ 3) : t = zeroTm := by
 simp only [shapeG, shapeB] at h
 rw [if_neg h1, if_neg h2, if_neg h3] at h
 by_cases c4 : k = 4 ∨ k = 5 ∨ k = 6 ∨ k = 7
 ·rw [if_pos c4] at h; simp only [Bool.and_eq_true] at h; exact sameB_true h.1.1.2
 ·rw [if_neg c4] at h
  by_cases c8 : k = 8
  ·rw [if_pos c8] at h; simp only [Bool.and_eq_true] at h; exact sameB_true h.1.1.2
  ·rw [if_neg c8] at h; cases h
theorem quiet_right (l : List St) : ∀ deep, rightGs deep l = true → quietGs l := by
 induction hN : snodess l using Nat.strongRecOn generalizing l with
 | ind N ih =>
  intro deep h
  refine quietGs_of fun g hg => ?_
  have hr := rightGs_mem h hg
  have hlt := snodess_le hg
  obtain ⟨k, s, t, b, e⟩ := g
  rw [snodes] at hlt
  cases hs : shapeG (.mk k s t b e) with
  | false => rw [rightG_shape hs] at hr; cases hr
  | true =>
   rw [quietG]
   refine ⟨fun h1 h2 h3 => by rw [shape_zero hs h1 h2 h3]; exact readsR_zero, ?_⟩
   cases hm : manyB k with
   | false =>
    have h1 := plain_one hs hm
    rw [snodes] at h1
    rw [snodess_nil (l := b) (by omega), snodess_nil (l := e) (by omega)]
    exact ⟨by rw [quietGs]; trivial, by rw [quietGs]; trivial⟩
   | true =>
    rw [rightG_many hs hm, Bool.and_eq_true, Bool.and_eq_true] at hr
    exact ⟨ih _ (by omega) b rfl _ hr.1.2, ih _ (by omega) e rfl _ hr.2⟩
theorem quiet_fit {deep room : Nat} {l : List St} (h : fitGs deep room l = true) : quietGs l := quiet_right l deep (fit_inv h).1
def unkP (gl lo pr : List ByteArray) (l : List Pr) : List ByteArray := l.foldl (fun acc q => unkGs gl lo pr acc q.body) []
theorem unkP_take (gl lo pr : List ByteArray) (l : List Pr) (k : Nat) (h : k < l.length) : unkP gl lo pr (l.take (k + 1)) = unkGs gl lo pr (unkP gl lo pr (l.take k)) l[k].body := by
 have e : l.take (k + 1) = l.take k ++ [l[k]] := List.take_succ_eq_append_getElem h
 unfold unkP
 rw [e, List.foldl_append]; rfl
theorem unkP_len (gl lo pr : List ByteArray) (l : List Pr) (k : Nat) : (unkP gl lo pr (l.take k)).length ≤ 2 * totPrs (l.take k) := by
 induction k with
 | zero => simp [unkP]
 | succ k ih =>
  by_cases h : k < l.length
  ·rw [unkP_take _ _ _ _ _ h, totPrs_take _ _ h]
   have h1 := unkGs_len gl lo pr (unkP gl lo pr (l.take k)) l[k].body
   have h2 : totPr l[k] = l[k].name.size + totGs l[k].body := rfl
   omega
  ·rw [List.take_of_length_le (by omega)]
   rw [List.take_of_length_le (by omega)] at ih
   exact ih
theorem totPrs_take_le (l : List Pr) (k : Nat) : totPrs (l.take k) ≤ totPrs l := by
 have e : totPrs l = totPrs (l.take k) + totPrs (l.drop k) := by rw [← totPrs_append, List.take_append_drop]
 omega
noncomputable def unkR (p : Pg) : List ByteArray := if okPg p = true then unkP p.globals p.locks (pnames p.procs) p.procs else []
theorem unkR_yes {p : Pg} (h : okPg p = true) : unkR p = unkP p.globals p.locks (pnames p.procs) p.procs := by simp [unkR, h]
theorem unkR_no {p : Pg} (h : okPg p = false) : unkR p = [] := by simp [unkR, h]
theorem okPg_procs {p : Pg} (h : okPg p = true) : p.procs.length ≤ 8 ∧ p.procs.all okPr = true := by
 unfold okPg at h
 rw [Bool.and_eq_true, Bool.and_eq_true, Bool.and_eq_true, decide_eq_true_eq] at h
 exact ⟨h.1.2, h.2⟩
theorem okPr_quiet {p : Pg} (h : okPg p = true) {k : Nat} (hk : k < p.procs.length) : quietGs p.procs[k].body := by
 have := List.all_eq_true.1 (okPg_procs h).2 _ (List.getElem_mem hk)
 unfold okPr at this
 rw [Bool.and_eq_true] at this
 exact quiet_fit this.2
end Go.Proofs.YtnmblfonmfjoeaaGreatDoor
