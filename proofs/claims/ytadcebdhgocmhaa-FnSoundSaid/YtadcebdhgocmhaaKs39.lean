/- Several texts in one: NamesB, PgOk, PgOkLaw. -/
import Derived.Test.YtadcebdhgocmhaaKs10
import Derived.Test.YtadcebdhgocmhaaKs4
import Derived.Test.YtadcebdhgocmhaaKs38
namespace Go.Proofs.Ytadcebdhgocmhaa
open Go.RowKit
set_option linter.unusedVariables false


def nameB (s : ByteArray) : Bool := isNameL s.data.toList
def namesB (m : Nat) (ss : List ByteArray) : Bool := decide (ss.length ≤ m) && ss.all nameB
theorem namesB_far {m : Nat} {ss : List ByteArray} (h : m < ss.length) : namesB m ss = false := by
  unfold namesB; rw [decide_no (by omega)]; rfl
theorem namesB_no {m j : Nat} {ss : List ByteArray} (hj : j < ss.length) (h : isNameL ss[j].data.toList = false) : namesB m ss = false := by
  unfold namesB
  rw [show ss.all nameB = false from List.all_eq_false.2 ⟨ss[j], List.getElem_mem hj, by unfold nameB; simp [h]⟩, Bool.and_false]
theorem namesB_yes {m : Nat} {ss : List ByteArray} (h : ss.length ≤ m) (h2 : ss.all nameB = true) : namesB m ss = true := by
  unfold namesB; rw [h2, decide_eq_true h]; rfl
theorem all_next {α : Type} {f : α → Bool} {l : List α} {j : Nat} (hj : j < l.length) (h : (l.take j).all f = true) (e : f l[j] = true) : (l.take (j + 1)).all f = true := by
  have e1 : l.take (j + 1) = l.take j ++ [l[j]] := List.take_succ_eq_append_getElem hj
  rw [e1, List.all_append, h]; simp [e]
theorem all_not {α : Type} {f : α → Bool} {l : List α} {j : Nat} (hj : j < l.length) (e : f l[j] = false) : l.all f = false := List.all_eq_false.2 ⟨l[j], List.getElem_mem hj, by simp [e]⟩
set_option maxHeartbeats 400000 in
theorem spec_l05Names (ss : List ByteArray) (A : Option Addr) (c m : Nat) (w : World) (rd : Rd w 1 A ss.length (ss.map Value.string)) (hl : ss.length ≤ c) (hc : c ≤ maxLen) :
    Calls Try.prog 75 #[.slice A ss.length c, .int .i64 (m : Int)] w fun e w' => e = .returned (.bool (namesB m ss)) ∧ w = w' := by
  unfold maxLen at hc
  have RD := Lib.hid rd
  clear rd
  by_cases hf : m < ss.length
  · rw [namesB_far hf]
    go_enter Try.func75, Try.ntmps75
    go_wp2_with fail
    go_ret
    exact ⟨rfl, rfl⟩
  go_enter Try.func75, Try.ntmps75
  go_wp2_with fail
  go_loop [5] (fun i => ∃ k : Nat, k ≤ ss.length ∧ i = .int .i64 k ∧ Hid ((ss.take k).all nameB = true)) (fun i => ss.length - (intOf i).toNat)
  case atStart => exact ⟨0, Nat.zero_le _, rfl, Lib.hid (by simp)⟩
  case round =>
    obtain ⟨k, hk, rfl, HT⟩ := hrel
    by_cases hlt : k < ss.length
    · obtain ⟨b, off, rfl, hcell⟩ := rd_str RD.out hlt
      have h0k : (0 : Int) ≤ (k : Int) := by omega
      cases hn : isNameL ss[k].data.toList with
      | false =>
        have F := Lib.hid (namesB_no (m := m) hlt hn)
        have HN := Lib.hid hn
        clear hn
        go_wp2_with (go_at_call 76; refine (spec_IsName _ _).mono ?_; rintro e w' ⟨rfl, rfl⟩; rw [HN.out])
        go_ret
        exact ⟨ret_bool F.out.symm, rfl⟩
      | true =>
        have T := Lib.hid (all_next hlt HT.out (by unfold nameB; exact hn))
        have HN := Lib.hid hn
        clear hn
        go_wp2_with (go_at_call 76; refine (spec_IsName _ _).mono ?_; rintro e w' ⟨rfl, rfl⟩; rw [HN.out])
        go_round
        case rel => exact ⟨k + 1, by omega, by go_num, T⟩
        case measure => simp [intOf]; omega
    · have T : Hid (namesB m ss = true) := Lib.hid (namesB_yes (by omega) (by have := HT.out; rwa [List.take_of_length_le (by omega)] at this))
      go_wp2_with fail
      go_ret
      exact ⟨ret_bool T.out.symm, rfl⟩
set_option maxHeartbeats 400000 in
theorem impl_areNames (ss : List ByteArray) (A : Option Addr) (c m : Nat) (w : World) (rd : Rd w 1 A ss.length (ss.map Value.string)) (hl : ss.length ≤ c) (hc : c ≤ maxLen) :
    Calls Try.prog 68 #[.slice A ss.length c, .int .i64 (m : Int)] w fun e w' => e = .returned (.bool (namesB m ss)) ∧ w = w' := by
  unfold maxLen at hc
  have RD := Lib.hid rd
  clear rd
  by_cases hf : m < ss.length
  · rw [namesB_far hf]
    go_enter Try.func68, Try.ntmps68
    go_wp2_with fail
    go_ret
    exact ⟨rfl, rfl⟩
  go_enter Try.func68, Try.ntmps68
  go_wp2_with fail
  go_loop [13] (fun i => ∃ k : Nat, k ≤ ss.length ∧ i = .int .i64 k ∧ Hid ((ss.take k).all nameB = true)) (fun i => ss.length - (intOf i).toNat)
  case atStart => exact ⟨0, Nat.zero_le _, rfl, Lib.hid (by simp)⟩
  case round =>
    obtain ⟨k, hk, rfl, HT⟩ := hrel
    by_cases hlt : k < ss.length
    · obtain ⟨b, off, rfl, hcell⟩ := rd_str RD.out hlt
      have h0k : (0 : Int) ≤ (k : Int) := by omega
      cases hn : isNameL ss[k].data.toList with
      | false =>
        have F := Lib.hid (namesB_no (m := m) hlt hn)
        have HN := Lib.hid hn
        clear hn
        go_wp2_with (go_at_call 69; refine (impl_IsName _ _).mono ?_; rintro e w' ⟨rfl, rfl⟩; rw [HN.out])
        go_ret
        exact ⟨ret_bool F.out.symm, rfl⟩
      | true =>
        have T := Lib.hid (all_next hlt HT.out (by unfold nameB; exact hn))
        have HN := Lib.hid hn
        clear hn
        go_wp2_with (go_at_call 69; refine (impl_IsName _ _).mono ?_; rintro e w' ⟨rfl, rfl⟩; rw [HN.out])
        go_round
        case rel => exact ⟨k + 1, by omega, by go_num, T⟩
        case measure => simp [intOf]; omega
    · have T : Hid (namesB m ss = true) := Lib.hid (namesB_yes (by omega) (by have := HT.out; rwa [List.take_of_length_le (by omega)] at this))
      go_wp2_with fail
      go_ret
      exact ⟨ret_bool T.out.symm, rfl⟩

noncomputable def okPr (p : Pr) : Bool := isNameL p.name.data.toList && fitGs 6 60 p.body
noncomputable def okPg (p : Pg) : Bool := namesB 6 p.globals && namesB 6 p.locks && decide (p.procs.length ≤ 8) && p.procs.all okPr
theorem okPg_g {p : Pg} (h : namesB 6 p.globals = false) : okPg p = false := by unfold okPg; rw [h]; simp
theorem okPg_l {p : Pg} (h : namesB 6 p.locks = false) : okPg p = false := by unfold okPg; rw [h]; simp
theorem okPg_m {p : Pg} (h : 8 < p.procs.length) : okPg p = false := by unfold okPg; rw [decide_no (by omega : ¬ p.procs.length ≤ 8)]; simp
theorem okPg_p {p : Pg} (h : p.procs.all okPr = false) : okPg p = false := by unfold okPg; rw [h]; simp
theorem okPg_yes {p : Pg} (h1 : namesB 6 p.globals = true) (h2 : namesB 6 p.locks = true) (h3 : p.procs.length ≤ 8) (h4 : p.procs.all okPr = true) : okPg p = true := by unfold okPg; rw [h1, h2, decide_eq_true h3, h4]; rfl
theorem tot_body {p : Pg} {k : Nat} (hk : k < p.procs.length) (h : totPg p ≤ 1048576) : totGs p.procs[k].body ≤ 1048577 := by
  have := totPrs_le (List.getElem_mem hk)
  simp only [totPg, totPr] at *
  omega
set_option maxHeartbeats 800000 in
theorem spec_ProgOk (p : Pg) (x : V3) (w : World) (hp : PgIs w x p) (htot : totPg p ≤ 1048576) :
    Calls Try.prog 31 #[x.val p] w fun e w' => e = .returned (.bool (okPg p)) ∧ Below w.heap.size w w' := by
  obtain ⟨gA, gc, lA, lc, pA, pc⟩ := x
  have HP := Lib.hid hp
  have hpl := hp.p1
  have hpc := hp.p2
  have hgl := hp.g1
  have hgc := hp.g2
  have hll := hp.l1
  have hlc := hp.l2
  clear hp
  simp only at hpl hpc hgl hgc hll hlc
  unfold maxLen at hpc
  unfold V3.val
  simp only
  cases hg : namesB 6 p.globals with
  | false =>
    have F := Lib.hid (okPg_g hg)
    have HG := Lib.hid hg
    clear hg
    go_enter Try.func31, Try.ntmps31
    go_wp2_with fail
    refine (spec_l05Names p.globals gA gc 6 _ (HP.out.belowA (by repeat' (first | exact Below.refl _ _ | exact Nat.le_refl _ | (refine Below.alloc ?_ ?_ _) | (refine Below.setCell ?_ ?_ _) | (refine Below.drew ?_) | (refine below_drewN ?_ _) | assumption | (simp; done) | (simp; omega)))).g3 hgl hgc).mono ?_
    rintro e w1 ⟨rfl, rfl⟩
    rw [HG.out]
    go_wp2_with fail
    go_ret
    exact ⟨ret_bool F.out.symm, (by repeat' (first | exact Below.refl _ _ | exact Nat.le_refl _ | (refine Below.alloc ?_ ?_ _) | (refine Below.setCell ?_ ?_ _) | (refine Below.drew ?_) | (refine below_drewN ?_ _) | assumption | (simp; done) | (simp; omega)))⟩
  | true =>
  have HG := Lib.hid hg
  clear hg
  cases hg : namesB 6 p.locks with
  | false =>
    have F := Lib.hid (okPg_l hg)
    have HL := Lib.hid hg
    clear hg
    go_enter Try.func31, Try.ntmps31
    go_wp2_with fail
    refine (spec_l05Names p.globals gA gc 6 _ (HP.out.belowA (by repeat' (first | exact Below.refl _ _ | exact Nat.le_refl _ | (refine Below.alloc ?_ ?_ _) | (refine Below.setCell ?_ ?_ _) | (refine Below.drew ?_) | (refine below_drewN ?_ _) | assumption | (simp; done) | (simp; omega)))).g3 hgl hgc).mono ?_
    rintro e w1 ⟨rfl, rfl⟩
    rw [HG.out]
    go_wp2_with fail
    refine (spec_l05Names p.locks lA lc 6 _ (HP.out.belowA (by repeat' (first | exact Below.refl _ _ | exact Nat.le_refl _ | (refine Below.alloc ?_ ?_ _) | (refine Below.setCell ?_ ?_ _) | (refine Below.drew ?_) | (refine below_drewN ?_ _) | assumption | (simp; done) | (simp; omega)))).l3 hll hlc).mono ?_
    rintro e w1 ⟨rfl, rfl⟩
    rw [HL.out]
    go_wp2_with fail
    go_ret
    exact ⟨ret_bool F.out.symm, (by repeat' (first | exact Below.refl _ _ | exact Nat.le_refl _ | (refine Below.alloc ?_ ?_ _) | (refine Below.setCell ?_ ?_ _) | (refine Below.drew ?_) | (refine below_drewN ?_ _) | assumption | (simp; done) | (simp; omega)))⟩
  | true =>
  have HL := Lib.hid hg
  clear hg
  by_cases hm : 8 < p.procs.length
  · have F := Lib.hid (okPg_m hm)
    go_enter Try.func31, Try.ntmps31
    go_wp2_with fail
    refine (spec_l05Names p.globals gA gc 6 _ (HP.out.belowA (by repeat' (first | exact Below.refl _ _ | exact Nat.le_refl _ | (refine Below.alloc ?_ ?_ _) | (refine Below.setCell ?_ ?_ _) | (refine Below.drew ?_) | (refine below_drewN ?_ _) | assumption | (simp; done) | (simp; omega)))).g3 hgl hgc).mono ?_
    rintro e w1 ⟨rfl, rfl⟩
    rw [HG.out]
    go_wp2_with fail
    refine (spec_l05Names p.locks lA lc 6 _ (HP.out.belowA (by repeat' (first | exact Below.refl _ _ | exact Nat.le_refl _ | (refine Below.alloc ?_ ?_ _) | (refine Below.setCell ?_ ?_ _) | (refine Below.drew ?_) | (refine below_drewN ?_ _) | assumption | (simp; done) | (simp; omega)))).l3 hll hlc).mono ?_
    rintro e w1 ⟨rfl, rfl⟩
    rw [HL.out]
    go_wp2_with fail
    go_ret
    exact ⟨ret_bool F.out.symm, (by repeat' (first | exact Below.refl _ _ | exact Nat.le_refl _ | (refine Below.alloc ?_ ?_ _) | (refine Below.setCell ?_ ?_ _) | (refine Below.drew ?_) | (refine below_drewN ?_ _) | assumption | (simp; done) | (simp; omega)))⟩
  go_enter Try.func31, Try.ntmps31
  go_wp2_with fail
  refine (spec_l05Names p.globals gA gc 6 _ (HP.out.belowA (by repeat' (first | exact Below.refl _ _ | exact Nat.le_refl _ | (refine Below.alloc ?_ ?_ _) | (refine Below.setCell ?_ ?_ _) | (refine Below.drew ?_) | (refine below_drewN ?_ _) | assumption | (simp; done) | (simp; omega)))).g3 hgl hgc).mono ?_
  rintro e w1 ⟨rfl, rfl⟩
  rw [HG.out]
  go_wp2_with fail
  refine (spec_l05Names p.locks lA lc 6 _ (HP.out.belowA (by repeat' (first | exact Below.refl _ _ | exact Nat.le_refl _ | (refine Below.alloc ?_ ?_ _) | (refine Below.setCell ?_ ?_ _) | (refine Below.drew ?_) | (refine below_drewN ?_ _) | assumption | (simp; done) | (simp; omega)))).l3 hll hlc).mono ?_
  rintro e w1 ⟨rfl, rfl⟩
  rw [HL.out]
  go_wp2_with fail
  go_loopw [3] (fun i wr => ∃ k : Nat, k ≤ p.procs.length ∧ i = .int .i64 k ∧ wr.cell? ⟨w.heap.size, 2, none⟩ = some (.slice pA p.procs.length pc) ∧ Below w.heap.size w wr ∧ Hid ((p.procs.take k).all okPr = true)) (fun i _ => p.procs.length - (intOf i).toNat)
  case atStart => exact ⟨0, Nat.zero_le _, rfl, by simp, (by repeat' (first | exact Below.refl _ _ | exact Nat.le_refl _ | (refine Below.alloc ?_ ?_ _) | (refine Below.setCell ?_ ?_ _) | (refine Below.drew ?_) | (refine below_drewN ?_ _) | assumption | (simp; done) | (simp; omega))), Lib.hid (by simp)⟩
  case round =>
    obtain ⟨k, hk, rfl, x2, hb, HT⟩ := hrel
    have HB := Lib.hid hb
    clear hb
    by_cases hlt : k < p.procs.length
    · have HR := Lib.hid (HP.out.belowA HB.out).p3
      obtain ⟨b, off, y, rfl, d0, d1, hnm, hym, _, hbc, hcm, row⟩ := rd_proc HR.out hlt
      rw [hym] at d1
      have ROW := Lib.hid row
      have tb := tot_body hlt htot
      have h0k : (0 : Int) ≤ (k : Int) := by omega
      have X2 := Lib.hid x2
      clear row hym HR
      cases hn : isNameL y.s.data.toList with
      | false =>
        have F : Hid (okPg p = false) := Lib.hid (okPg_p (all_not hlt (by unfold okPr; rw [hnm, hn]; rfl)))
        have HN := Lib.hid hn
        clear hn hnm
        go_wp2_with (go_at_call 76; refine (spec_IsName _ _).mono ?_; rintro e w' ⟨rfl, rfl⟩; rw [HN.out])
        go_ret
        exact ⟨ret_bool F.out.symm, HB.out⟩
      | true =>
        have HN := Lib.hid hn
        clear hn
        cases hq : fitGs 6 60 p.procs[k].body with
        | false =>
          have F : Hid (okPg p = false) := Lib.hid (okPg_p (all_not hlt (by unfold okPr; rw [hnm, hq, Bool.and_false])))
          have HQ := Lib.hid hq
          clear hq hnm
          go_wp2_with (go_at_call 76; refine (spec_IsName _ _).mono ?_; rintro e w' ⟨rfl, rfl⟩; rw [HN.out])
          refine (spec_l04Ok p.procs[k].body y.A y.c _ ROW.out hbc hcm tb).mono ?_
          rintro e w1 ⟨rfl, b1⟩
          have B1 := Lib.hid (below_then HB.out b1)
          rw [HQ.out]
          clear b1
          go_wp2_with fail
          go_ret
          exact ⟨ret_bool F.out.symm, B1.out⟩
        | true =>
          have T := Lib.hid (all_next hlt HT.out (by unfold okPr; rw [hnm, HN.out, hq]; rfl))
          have HQ := Lib.hid hq
          clear hq hnm
          go_wp2_with (go_at_call 76; refine (spec_IsName _ _).mono ?_; rintro e w' ⟨rfl, rfl⟩; rw [HN.out])
          refine (spec_l04Ok p.procs[k].body y.A y.c _ ROW.out hbc hcm tb).mono ?_
          rintro e w1 ⟨rfl, b1⟩
          have B1 := Lib.hid (below_then HB.out b1)
          have Z2 := Lib.hid (cell_keep b1 X2.out)
          rw [HQ.out]
          clear b1
          go_wp2_with fail
          go_roundw
          case rel => exact ⟨k + 1, by omega, by go_num, Z2.out, B1.out, T⟩
          case measure => simp [intOf]; omega
    · have T : Hid (okPg p = true) := Lib.hid (okPg_yes HG.out HL.out (by omega) (by have := HT.out; rwa [List.take_of_length_le (by omega)] at this))
      go_wp2_with fail
      go_ret
      exact ⟨ret_bool T.out.symm, HB.out⟩

set_option maxHeartbeats 1600000 in
theorem impl_ProgOk (p : Pg) (x : V3) (w : World) (hp : PgIs w x p) (htot : totPg p ≤ 1048576) :
    Calls Try.prog 26 #[x.val p] w fun e w' => e = .returned (.bool (okPg p)) ∧ Below w.heap.size w w' := by
  obtain ⟨gA, gc, lA, lc, pA, pc⟩ := x
  have HP := Lib.hid hp
  have hpl := hp.p1
  have hpc := hp.p2
  have hgl := hp.g1
  have hgc := hp.g2
  have hll := hp.l1
  have hlc := hp.l2
  clear hp
  simp only at hpl hpc hgl hgc hll hlc
  unfold maxLen at hpc
  unfold V3.val
  simp only
  cases hg : namesB 6 p.globals with
  | false =>
    have F := Lib.hid (okPg_g hg)
    have HG := Lib.hid hg
    clear hg
    go_enter Try.func26, Try.ntmps26
    go_wp2_with fail
    refine (impl_areNames p.globals gA gc 6 _ (HP.out.belowA (by repeat' (first | exact Below.refl _ _ | exact Nat.le_refl _ | (refine Below.alloc ?_ ?_ _) | (refine Below.setCell ?_ ?_ _) | (refine Below.drew ?_) | (refine below_drewN ?_ _) | assumption | (simp; done) | (simp; omega)))).g3 hgl hgc).mono ?_
    rintro e w1 ⟨rfl, rfl⟩
    rw [HG.out]
    go_wp2_with fail
    go_ret
    exact ⟨ret_bool F.out.symm, (by repeat' (first | exact Below.refl _ _ | exact Nat.le_refl _ | (refine Below.alloc ?_ ?_ _) | (refine Below.setCell ?_ ?_ _) | (refine Below.drew ?_) | (refine below_drewN ?_ _) | assumption | (simp; done) | (simp; omega)))⟩
  | true =>
  have HG := Lib.hid hg
  clear hg
  cases hg : namesB 6 p.locks with
  | false =>
    have F := Lib.hid (okPg_l hg)
    have HL := Lib.hid hg
    clear hg
    go_enter Try.func26, Try.ntmps26
    go_wp2_with fail
    refine (impl_areNames p.globals gA gc 6 _ (HP.out.belowA (by repeat' (first | exact Below.refl _ _ | exact Nat.le_refl _ | (refine Below.alloc ?_ ?_ _) | (refine Below.setCell ?_ ?_ _) | (refine Below.drew ?_) | (refine below_drewN ?_ _) | assumption | (simp; done) | (simp; omega)))).g3 hgl hgc).mono ?_
    rintro e w1 ⟨rfl, rfl⟩
    rw [HG.out]
    go_wp2_with fail
    refine (impl_areNames p.locks lA lc 6 _ (HP.out.belowA (by repeat' (first | exact Below.refl _ _ | exact Nat.le_refl _ | (refine Below.alloc ?_ ?_ _) | (refine Below.setCell ?_ ?_ _) | (refine Below.drew ?_) | (refine below_drewN ?_ _) | assumption | (simp; done) | (simp; omega)))).l3 hll hlc).mono ?_
    rintro e w1 ⟨rfl, rfl⟩
    rw [HL.out]
    go_wp2_with fail
    go_ret
    exact ⟨ret_bool F.out.symm, (by repeat' (first | exact Below.refl _ _ | exact Nat.le_refl _ | (refine Below.alloc ?_ ?_ _) | (refine Below.setCell ?_ ?_ _) | (refine Below.drew ?_) | (refine below_drewN ?_ _) | assumption | (simp; done) | (simp; omega)))⟩
  | true =>
  have HL := Lib.hid hg
  clear hg
  by_cases hm : 8 < p.procs.length
  · have F := Lib.hid (okPg_m hm)
    go_enter Try.func26, Try.ntmps26
    go_wp2_with fail
    refine (impl_areNames p.globals gA gc 6 _ (HP.out.belowA (by repeat' (first | exact Below.refl _ _ | exact Nat.le_refl _ | (refine Below.alloc ?_ ?_ _) | (refine Below.setCell ?_ ?_ _) | (refine Below.drew ?_) | (refine below_drewN ?_ _) | assumption | (simp; done) | (simp; omega)))).g3 hgl hgc).mono ?_
    rintro e w1 ⟨rfl, rfl⟩
    rw [HG.out]
    go_wp2_with fail
    refine (impl_areNames p.locks lA lc 6 _ (HP.out.belowA (by repeat' (first | exact Below.refl _ _ | exact Nat.le_refl _ | (refine Below.alloc ?_ ?_ _) | (refine Below.setCell ?_ ?_ _) | (refine Below.drew ?_) | (refine below_drewN ?_ _) | assumption | (simp; done) | (simp; omega)))).l3 hll hlc).mono ?_
    rintro e w1 ⟨rfl, rfl⟩
    rw [HL.out]
    go_wp2_with fail
    go_ret
    exact ⟨ret_bool F.out.symm, (by repeat' (first | exact Below.refl _ _ | exact Nat.le_refl _ | (refine Below.alloc ?_ ?_ _) | (refine Below.setCell ?_ ?_ _) | (refine Below.drew ?_) | (refine below_drewN ?_ _) | assumption | (simp; done) | (simp; omega)))⟩
  go_enter Try.func26, Try.ntmps26
  go_wp2_with fail
  refine (impl_areNames p.globals gA gc 6 _ (HP.out.belowA (by repeat' (first | exact Below.refl _ _ | exact Nat.le_refl _ | (refine Below.alloc ?_ ?_ _) | (refine Below.setCell ?_ ?_ _) | (refine Below.drew ?_) | (refine below_drewN ?_ _) | assumption | (simp; done) | (simp; omega)))).g3 hgl hgc).mono ?_
  rintro e w1 ⟨rfl, rfl⟩
  rw [HG.out]
  go_wp2_with fail
  refine (impl_areNames p.locks lA lc 6 _ (HP.out.belowA (by repeat' (first | exact Below.refl _ _ | exact Nat.le_refl _ | (refine Below.alloc ?_ ?_ _) | (refine Below.setCell ?_ ?_ _) | (refine Below.drew ?_) | (refine below_drewN ?_ _) | assumption | (simp; done) | (simp; omega)))).l3 hll hlc).mono ?_
  rintro e w1 ⟨rfl, rfl⟩
  rw [HL.out]
  go_wp2_with fail
  go_loopw [25] (fun i wr => ∃ k : Nat, k ≤ p.procs.length ∧ i = .int .i64 k ∧ Hid (Below w.heap.size w wr ∧ (p.procs.take k).all okPr = true)) (fun i _ => p.procs.length - (intOf i).toNat)
  case atStart => exact ⟨0, Nat.zero_le _, rfl, Lib.hid ⟨(by repeat' (first | exact Below.refl _ _ | exact Nat.le_refl _ | (refine Below.alloc ?_ ?_ _) | (refine Below.setCell ?_ ?_ _) | (refine Below.drew ?_) | (refine below_drewN ?_ _) | assumption | (simp; done) | (simp; omega))), by simp⟩⟩
  case round =>
    obtain ⟨k, hk, rfl, HT⟩ := hrel
    have HB := Lib.hid HT.out.1
    by_cases hlt : k < p.procs.length
    · have HR := Lib.hid (HP.out.belowA HB.out).p3
      obtain ⟨b, off, y, rfl, d0, d1, hnm, hym, _, hbc, hcm, row⟩ := rd_proc HR.out hlt
      rw [hym] at d1
      have ROW := Lib.hid row
      have tb := tot_body hlt htot
      have h0k : (0 : Int) ≤ (k : Int) := by omega
      have hbl := cell_lt d0
      have BOXQ : Hid (RoomAt ((wr.alloc (.cells #[.string y.s, .slice y.A p.procs[k].body.length y.c] 31)).alloc (.cells #[.int .i64 60] 3)) (wr.heap.size + 1) ((60 : Nat) : Int)) := Lib.hid (by
        have := heap_alloc_new (wr.alloc (.cells #[.string y.s, .slice y.A p.procs[k].body.length y.c] 31)) (.cells #[.int .i64 60] 3)
        rw [show (wr.alloc (.cells #[.string y.s, .slice y.A p.procs[k].body.length y.c] 31)).heap.size = wr.heap.size + 1 from by simp] at this
        exact this)
      clear row hym HR
      cases hn : isNameL y.s.data.toList with
      | false =>
        have F : Hid (okPg p = false) := Lib.hid (okPg_p (all_not hlt (by unfold okPr; rw [hnm, hn]; rfl)))
        have HN := Lib.hid hn
        clear hn hnm
        go_wp2_with (go_at_call 69; refine (impl_IsName _ _).mono ?_; rintro e w' ⟨rfl, rfl⟩; rw [HN.out])
        go_ret
        exact ⟨ret_bool F.out.symm, Below.alloc (Below.alloc HB.out HB.out.size _) (by have := HB.out.size; simp; omega) _⟩
      | true =>
        have HN := Lib.hid hn
        clear hn
        cases hq : fitGs 6 60 p.procs[k].body with
        | false =>
          have F : Hid (okPg p = false) := Lib.hid (okPg_p (all_not hlt (by unfold okPr; rw [hnm, hq, Bool.and_false])))
          have HQ := Lib.hid hq
          clear hq hnm
          go_wp2_with (go_at_call 69; refine (impl_IsName _ _).mono ?_; rintro e w' ⟨rfl, rfl⟩; rw [HN.out])
          refine (impl_stmtsFit p.procs[k].body y.A y.c 6 60 (wr.heap.size + 1) _ (ROW.out.keep (fun _ hp _ => (Below.alloc (Below.alloc (Below.refl wr.heap.size wr) (Nat.le_refl _) _) (by simp) _).cell hp) (fun b hb _ => by omega)) hbc hcm tb (by omega) (by omega) BOXQ.out).mono ?_
          rintro e w1 ⟨rfl, k1, _⟩
          have B1 : Hid (Below w.heap.size w w1) := Lib.hid (Below.trans (Below.alloc (Below.alloc HB.out HB.out.size _) (by have := HB.out.size; simp; omega) _) (k1.below (by have := HB.out.size; simp; omega) (fun b hb => by have := HB.out.size; omega)))
          rw [HQ.out]
          clear k1
          go_wp2_with fail
          go_ret
          exact ⟨ret_bool F.out.symm, B1.out⟩
        | true =>
          have T := Lib.hid (all_next hlt HT.out.2 (by unfold okPr; rw [hnm, HN.out, hq]; rfl))
          have HQ := Lib.hid hq
          clear hq hnm
          go_wp2_with (go_at_call 69; refine (impl_IsName _ _).mono ?_; rintro e w' ⟨rfl, rfl⟩; rw [HN.out])
          refine (impl_stmtsFit p.procs[k].body y.A y.c 6 60 (wr.heap.size + 1) _ (ROW.out.keep (fun _ hp _ => (Below.alloc (Below.alloc (Below.refl wr.heap.size wr) (Nat.le_refl _) _) (by simp) _).cell hp) (fun b hb _ => by omega)) hbc hcm tb (by omega) (by omega) BOXQ.out).mono ?_
          rintro e w1 ⟨rfl, k1, _⟩
          have B1 : Hid (Below w.heap.size w w1) := Lib.hid (Below.trans (Below.alloc (Below.alloc HB.out HB.out.size _) (by have := HB.out.size; simp; omega) _) (k1.below (by have := HB.out.size; simp; omega) (fun b hb => by have := HB.out.size; omega)))
          rw [HQ.out]
          clear k1
          go_wp2_with fail
          go_roundw
          case rel => exact ⟨k + 1, by omega, by go_num, Lib.hid ⟨B1.out, T.out⟩⟩
          case measure => simp [intOf]; omega
    · have T : Hid (okPg p = true) := Lib.hid (okPg_yes HG.out HL.out (by omega) (by have := HT.out.2; rwa [List.take_of_length_le (by omega)] at this))
      go_wp2_with fail
      go_ret
      exact ⟨ret_bool T.out.symm, HB.out⟩
end Go.Proofs.Ytadcebdhgocmhaa
