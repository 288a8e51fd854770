/- Lemmas for the row. -/
import Derived.Test.YtnmblfonmfjoeaaGreatDoorKc37
namespace Go.Proofs.YtnmblfonmfjoeaaGreatDoor
open Go.RowKit
set_option maxHeartbeats 4000000
set_option linter.unusedVariables false
theorem totS_names {l : List Pr} (h : ∀ q ∈ l, q.name.size ≤ 12) : totS (pnames l) ≤ 13 * l.length := by
 induction l with
 | nil => exact Nat.zero_le _
 | cons a r ih =>
  have h1 := ih fun q hq => h q (List.mem_cons_of_mem _ hq)
  have h2 := h a (List.mem_cons_self ..)
  have e : totS (pnames (a :: r)) = 1 + a.name.size + totS (pnames r) := by
   unfold totS
   show (pnames r).length + 1 + (a.name.size + ((pnames r).map ByteArray.size).sum) = _
   omega
  rw [e, List.length_cons]
  omega
theorem drawn_code (code : List UInt8) : faultR ⟨glD, loN, (drawnP code).procs⟩ = 0 ∧ totPg ⟨glD, loN, (drawnP code).procs⟩ ≤ 1048576 ∧ totCd (codeP ⟨glD, loN, (drawnP code).procs⟩) ≤ 1048576 ∧ (drawnP code).procs.length ≤ 4 := by
 obtain ⟨q0, q1, rest, ns, hL, hr, hns, h0, hpn, hgood⟩ := drawn_parts code
 have Z := drawn_zero hr hns h0 hpn hgood
 have SZ := drawn_sizes hr hgood
 have hl : (q0 :: q1 :: rest).length ≤ 4 := by simp; omega
 have ht := prs_tot (l := q0 :: q1 :: rest) fun q hq => by
  have := pr_tot (hgood q hq).name (hgood q hq).right (by have := (hgood q hq).few; omega)
  omega
 have hn := totS_names (l := q0 :: q1 :: rest) fun q hq => by
  have := name_len (hgood q hq).name
  have e : q.name.data.toList.length = q.name.size := rfl
  omega
 have hc := code_tot ⟨glD, loN, q0 :: q1 :: rest⟩
 rw [hL]
 refine ⟨Z.2, SZ.1, ?_, hl⟩
 have e1 : totS glD = 8 := by decide
 have e2 : totS loN = 6 := by decide
 simp only at hc
 omega
theorem impl_namesRight (p : Cd) (x : V5) (w : World) (hp : CdIs w x p) :
  Calls Tryz.prog 23 #[x.val p] w fun e w' => e = .returned (.bool (namB p)) ∧ Below w.heap.size w w' := by
 obtain ⟨gA, gc, lA, lc, pA, pc, eA, ec, iA, ic⟩ := x
 have HP := qh hp
 have hgl := hp.g1
 have hgc := hp.g2
 have hll := hp.l1
 have hlc := hp.l2
 have hpl := hp.p1
 have hpc := hp.p2
 have hel := hp.e1
 have hec := hp.e2
 have hil := hp.i1
 have hic := hp.i2
 simp only at hgl hgc hll hlc hpl hpc hel hec hil hic
 clear hp
 unfold V5.val
 simp only
 cases hg : namesB 6 p.globals with
 | false =>
  have F := qh (namB_1 hg)
  have H1 := qh hg
  clear hg
  go_enter Tryz.func23, Tryz.ntmps23
  go_wp2_with fail
  refine (impl_areNames p.globals gA gc 6 _ (HP.out.belowA zB).g3 hgl hgc).mono ?_
  rintro e w1 ⟨rfl, rfl⟩
  rw [H1.out]
  go_wp2_with fail
  go_ret
  exact ⟨ret_bool F.out.symm, zB⟩
 | true =>
 have H1 := qh hg
 clear hg
 cases hg : namesB 6 p.locks with
 | false =>
  have F := qh (namB_2 hg)
  have H2 := qh hg
  clear hg
  go_enter Tryz.func23, Tryz.ntmps23
  go_wp2_with fail
  refine (impl_areNames p.globals gA gc 6 _ (HP.out.belowA zB).g3 hgl hgc).mono ?_
  rintro e w1 ⟨rfl, rfl⟩
  rw [H1.out]
  go_wp2_with fail
  refine (impl_areNames p.locks lA lc 6 _ (HP.out.belowA zB).l3 hll hlc).mono ?_
  rintro e w1 ⟨rfl, rfl⟩
  rw [H2.out]
  go_wp2_with fail
  go_ret
  exact ⟨ret_bool F.out.symm, zB⟩
 | true =>
 have H2 := qh hg
 clear hg
 cases hg : namesB 8 p.procs with
 | false =>
  have F := qh (namB_3 hg)
  have H3 := qh hg
  clear hg
  go_enter Tryz.func23, Tryz.ntmps23
  go_wp2_with fail
  refine (impl_areNames p.globals gA gc 6 _ (HP.out.belowA zB).g3 hgl hgc).mono ?_
  rintro e w1 ⟨rfl, rfl⟩
  rw [H1.out]
  go_wp2_with fail
  refine (impl_areNames p.locks lA lc 6 _ (HP.out.belowA zB).l3 hll hlc).mono ?_
  rintro e w1 ⟨rfl, rfl⟩
  rw [H2.out]
  go_wp2_with fail
  refine (impl_areNames p.procs pA pc 8 _ (HP.out.belowA zB).p3 hpl hpc).mono ?_
  rintro e w1 ⟨rfl, rfl⟩
  rw [H3.out]
  go_wp2_with fail
  go_ret
  exact ⟨ret_bool F.out.symm, zB⟩
 | true =>
 have H3 := qh hg
 clear hg
 cases hg : twiceS p.globals with
 | true =>
  have F := qh (namB_4 hg)
  have H4 := qh hg
  clear hg
  go_enter Tryz.func23, Tryz.ntmps23
  go_wp2_with fail
  refine (impl_areNames p.globals gA gc 6 _ (HP.out.belowA zB).g3 hgl hgc).mono ?_
  rintro e w1 ⟨rfl, rfl⟩
  rw [H1.out]
  go_wp2_with fail
  refine (impl_areNames p.locks lA lc 6 _ (HP.out.belowA zB).l3 hll hlc).mono ?_
  rintro e w1 ⟨rfl, rfl⟩
  rw [H2.out]
  go_wp2_with fail
  refine (impl_areNames p.procs pA pc 8 _ (HP.out.belowA zB).p3 hpl hpc).mono ?_
  rintro e w1 ⟨rfl, rfl⟩
  rw [H3.out]
  go_wp2_with fail
  refine (impl_hasTwice _ p.globals _ (HP.out.belowA zB).gs).mono ?_
  rintro e w1 ⟨rfl, rfl⟩
  rw [H4.out]
  go_wp2_with fail
  go_ret
  exact ⟨ret_bool F.out.symm, zB⟩
 | false =>
 have H4 := qh hg
 clear hg
 cases hg : twiceS p.locks with
 | true =>
  have F := qh (namB_5 hg)
  have H5 := qh hg
  clear hg
  go_enter Tryz.func23, Tryz.ntmps23
  go_wp2_with fail
  refine (impl_areNames p.globals gA gc 6 _ (HP.out.belowA zB).g3 hgl hgc).mono ?_
  rintro e w1 ⟨rfl, rfl⟩
  rw [H1.out]
  go_wp2_with fail
  refine (impl_areNames p.locks lA lc 6 _ (HP.out.belowA zB).l3 hll hlc).mono ?_
  rintro e w1 ⟨rfl, rfl⟩
  rw [H2.out]
  go_wp2_with fail
  refine (impl_areNames p.procs pA pc 8 _ (HP.out.belowA zB).p3 hpl hpc).mono ?_
  rintro e w1 ⟨rfl, rfl⟩
  rw [H3.out]
  go_wp2_with fail
  refine (impl_hasTwice _ p.globals _ (HP.out.belowA zB).gs).mono ?_
  rintro e w1 ⟨rfl, rfl⟩
  rw [H4.out]
  go_wp2_with fail
  refine (impl_hasTwice _ p.locks _ (HP.out.belowA zB).ls).mono ?_
  rintro e w1 ⟨rfl, rfl⟩
  rw [H5.out]
  go_wp2_with fail
  go_ret
  exact ⟨ret_bool F.out.symm, zB⟩
 | false =>
 have H5 := qh hg
 clear hg
 cases hg : twiceS p.procs with
 | true =>
  have F := qh (namB_6 hg)
  have H6 := qh hg
  clear hg
  go_enter Tryz.func23, Tryz.ntmps23
  go_wp2_with fail
  refine (impl_areNames p.globals gA gc 6 _ (HP.out.belowA zB).g3 hgl hgc).mono ?_
  rintro e w1 ⟨rfl, rfl⟩
  rw [H1.out]
  go_wp2_with fail
  refine (impl_areNames p.locks lA lc 6 _ (HP.out.belowA zB).l3 hll hlc).mono ?_
  rintro e w1 ⟨rfl, rfl⟩
  rw [H2.out]
  go_wp2_with fail
  refine (impl_areNames p.procs pA pc 8 _ (HP.out.belowA zB).p3 hpl hpc).mono ?_
  rintro e w1 ⟨rfl, rfl⟩
  rw [H3.out]
  go_wp2_with fail
  refine (impl_hasTwice _ p.globals _ (HP.out.belowA zB).gs).mono ?_
  rintro e w1 ⟨rfl, rfl⟩
  rw [H4.out]
  go_wp2_with fail
  refine (impl_hasTwice _ p.locks _ (HP.out.belowA zB).ls).mono ?_
  rintro e w1 ⟨rfl, rfl⟩
  rw [H5.out]
  go_wp2_with fail
  refine (impl_hasTwice _ p.procs _ (HP.out.belowA zB).ps).mono ?_
  rintro e w1 ⟨rfl, rfl⟩
  rw [H6.out]
  go_wp2_with fail
  go_ret
  exact ⟨ret_bool F.out.symm, zB⟩
 | false =>
 have H6 := qh hg
 clear hg
 have NB := qh (namB_8 H1.out H2.out H3.out H4.out H5.out H6.out)
 go_enter Tryz.func23, Tryz.ntmps23
 go_wp2_with fail
 refine (impl_areNames p.globals gA gc 6 _ (HP.out.belowA zB).g3 hgl hgc).mono ?_
 rintro e w1 ⟨rfl, rfl⟩
 rw [H1.out]
 go_wp2_with fail
 refine (impl_areNames p.locks lA lc 6 _ (HP.out.belowA zB).l3 hll hlc).mono ?_
 rintro e w1 ⟨rfl, rfl⟩
 rw [H2.out]
 go_wp2_with fail
 refine (impl_areNames p.procs pA pc 8 _ (HP.out.belowA zB).p3 hpl hpc).mono ?_
 rintro e w1 ⟨rfl, rfl⟩
 rw [H3.out]
 go_wp2_with fail
 refine (impl_hasTwice _ p.globals _ (HP.out.belowA zB).gs).mono ?_
 rintro e w1 ⟨rfl, rfl⟩
 rw [H4.out]
 go_wp2_with fail
 refine (impl_hasTwice _ p.locks _ (HP.out.belowA zB).ls).mono ?_
 rintro e w1 ⟨rfl, rfl⟩
 rw [H5.out]
 go_wp2_with fail
 refine (impl_hasTwice _ p.procs _ (HP.out.belowA zB).ps).mono ?_
 rintro e w1 ⟨rfl, rfl⟩
 rw [H6.out]
 go_wp2_with fail
 refine (slices_Contains _ p.procs mainS _ (HP.out.belowA zB).ps).mono ?_
 rintro e w1 ⟨rfl, rfl⟩
 go_wp2_with fail
 go_ret
 exact ⟨ret_bool NB.out.symm, zB⟩
def LastAt (p : Cd) (i : Nat) : Prop := p.entry.getD i 0 < finE p.entry p.ins.length i ∧ finE p.entry p.ins.length i ≤ (p.ins.length : Int) ∧ (opsC p).getD (finE p.entry p.ins.length i - 1).toNat 0 = 9
theorem head_last {p : Cd} (h : HeadOk p) {i : Nat} (hi : i < p.entry.length) : LastAt p i := by
 have h1 := h.ent.rise i hi
 have h2 := h.ent.top i hi
 have h3 := h.ent.last i hi
 rw [opsC_len] at h1 h2 h3
 exact ⟨h1, h2, h3⟩
theorem head_cnt {p : Cd} (h : HeadOk p) : cnt9 (opsC p) p.ins.length = p.entry.length := by
 have := (entI_of h.ent).count
 rw [← cnt9_all, opsC_len] at this
 exact this
theorem head_mkI {p : Cd} (h1 : namB p = true) (h2 : p.entry.length = p.procs.length) (h3 : p.ins.length ≤ 1500) (h4 : p.entry.getD 0 1 = 0) (h5 : cnt9 (opsC p) p.ins.length = p.entry.length) (hA : ∀ i, i < p.entry.length → LastAt p i) : HeadOk p := by
 refine ⟨h1, h2, h3, entI_ok ⟨h4, ?_, fun i hi => ?_, fun i hi => ?_, fun i hi => ?_⟩⟩
 ·rw [← cnt9_all, opsC_len]; exact h5
 ·rw [opsC_len]; exact (hA i hi).1
 ·rw [opsC_len]; exact (hA i hi).2.1
 ·rw [opsC_len]; exact (hA i hi).2.2
theorem last_nn {p : Cd} (h0 : p.entry.getD 0 1 = 0) {k : Nat} (hk : k < p.entry.length) (hA : ∀ i, i < k → LastAt p i) : 0 ≤ p.entry.getD k 0 := by
 induction k with
 | zero => rw [getD_any hk 0 1, h0]; exact Int.le_refl _
 | succ k ih =>
  have h1 := ih (by omega) (fun i hi => hA i (by omega))
  have h2 := (hA k (by omega)).1
  rw [finE_in hk] at h2
  omega
theorem last_no1 {p : Cd} {k : Nat} {z : Int} (hk : k < p.entry.length) (hz : finE p.entry p.ins.length k = z) (h : z ≤ p.entry[k]) : ¬ LastAt p k := fun l => by
 have := l.1
 rw [hz, getD_get hk] at this
 omega
theorem last_no2 {p : Cd} {k : Nat} {z : Int} (hz : finE p.entry p.ins.length k = z) (h : (p.ins.length : Int) < z) : ¬ LastAt p k := fun l => by
 have := l.2.1
 omega
theorem last_no3 {p : Cd} {k : Nat} {z : Int} (hz : finE p.entry p.ins.length k = z) (hj : (z - 1).toNat < p.ins.length) (h : (p.ins[(z - 1).toNat].op != 9) = true) : ¬ LastAt p k := fun l => by
 have := l.2.2
 rw [hz, opsC_get p hj] at this
 rw [this] at h; cases h
theorem last_yes {p : Cd} {k : Nat} {z : Int} (hk : k < p.entry.length) (hz : finE p.entry p.ins.length k = z) (h1 : p.entry[k] < z) (h2 : z ≤ (p.ins.length : Int)) (hj : (z - 1).toNat < p.ins.length) (h : (p.ins[(z - 1).toNat].op != 9) = false) : LastAt p k := by
 refine ⟨by rw [hz, getD_get hk]; exact h1, by rw [hz]; exact h2, ?_⟩
 rw [hz, opsC_get p hj]
 simpa using h
set_option maxRecDepth 100000 in
theorem impl_entriesRight (p : Cd) (x : V5) (w : World) (hp : CdIs w x p) (hnam : namB p = true) :
  Calls Tryz.prog 24 #[x.val p] w fun e w' => e = .returned (.bool (decP (HeadOk p))) ∧ Below w.heap.size w w' := by
 obtain ⟨gA, gc, lA, lc, pA, pc, eA, ec, iA, ic⟩ := x
 have NB := qh hnam
 have hpp := namB_pos hnam
 clear hnam
 have HP := qh hp
 have hgl := hp.g1
 have hgc := hp.g2
 have hll := hp.l1
 have hlc := hp.l2
 have hpl := hp.p1
 have hpc := hp.p2
 have hel := hp.e1
 have hec := hp.e2
 have hil := hp.i1
 have hic := hp.i2
 simp only at hgl hgc hll hlc hpl hpc hel hec hil hic
 clear hp
 unfold V5.val
 simp only
 unfold maxLen at hgc hlc hpc hec hic
 by_cases h8 : 1500 < p.ins.length
 ·have F : Hid (¬ HeadOk p) := qh (fun h => by have := h.small; omega)
  go_enter Tryz.func24, Tryz.ntmps24
  go_wp2_with fail
  go_ret
  exact ⟨ret_bool (decP_no F.out).symm, zB⟩
 by_cases h7 : p.entry.length = p.procs.length
 case neg =>
  have q7 : ((p.entry.length : Int) != (p.procs.length : Int)) = true := by simp; omega
  have F : Hid (¬ HeadOk p) := qh (fun h => h7 h.same)
  clear h7
  go_enter Tryz.func24, Tryz.ntmps24
  go_wp2_with fail
  go_ret
  exact ⟨ret_bool (decP_no F.out).symm, zB⟩
 have q7 : ((p.entry.length : Int) != (p.procs.length : Int)) = false := by simp [h7]
 have hl0 : 0 < p.entry.length := by omega
 have H7 := qh h7
 obtain ⟨b, off, rfl, hcell0⟩ := rd_int HP.out.e3 hl0
 have hbl := cell_lt hcell0
 simp only at hbl
 have h2k : (0 : Int) < (p.entry.length : Int) := by omega
 have hcell0' : w.cell? ⟨b, off, none⟩ = some (.int .i64 p.entry[0]) := by rw [Nat.add_zero] at hcell0; exact hcell0
 clear h7
 cases q1 : (p.entry[0] != 0) with
 | true =>
  have F : Hid (¬ HeadOk p) := qh (fun h => rise_zero hl0 q1 (head_rise h hl0))
  go_enter Tryz.func24, Tryz.ntmps24
  go_wp2_with fail
  go_ret
  exact ⟨ret_bool (decP_no F.out).symm, zB⟩
 | false =>
 have HZ : Hid (p.entry.getD 0 1 = 0) := qh (by rw [getD_get hl0]; simpa using q1)
 go_enter Tryz.func24, Tryz.ntmps24
 go_wp2_with fail
 clear hcell0 hcell0' q1
 go_loopw [3, 32] (fun c i wr => ∃ k : Nat, k ≤ p.ins.length ∧ i = .int .i64 k ∧ (∃ m : Nat, m ≤ k ∧ c = .int .i64 m ∧ Hid (m = cnt9 (opsC p) k)) ∧ Hid (Below w.heap.size w wr ∧ Box5 wr w.heap.size ⟨gA, gc, lA, lc, pA, pc, some ⟨b, off, none⟩, ec, iA, ic⟩ p)) (fun _ i _ => p.ins.length - (intOf i).toNat)
 case atStart => exact ⟨0, Nat.zero_le _, rfl, ⟨0, Nat.le_refl _, rfl, qh (by simp [cnt9])⟩, qh ⟨zB, Box5.new w ⟨gA, gc, lA, lc, pA, pc, some ⟨b, off, none⟩, ec, iA, ic⟩ p _⟩⟩
 case round =>
  obtain ⟨k, hk, rfl, ⟨m, hm, rfl, HM⟩, HB⟩ := hrel
  by_cases hlt : k < p.ins.length
  ·obtain ⟨ib, ioff, y, e1, _, ⟨d0, d1, d2, d3, d4, d5, d6⟩, hI⟩ := rd_ins (HP.out.belowA HB.out.1).i3 hlt
   simp only at e1
   subst e1
   have ho := hI.1
   rw [ho] at d0
   have h0k : (0 : Int) ≤ (k : Int) := by omega
   have SU : Hid (cnt9 (opsC p) (k + 1) = m + (if p.ins[k].op = 9 then 1 else 0)) := qh (by rw [cnt9_succ (by rw [opsC_len]; exact hlt), opsC_get p hlt, ← HM.out])
   have HH : Hid (wr.heap.size < (wr.alloc (.cells #[.int .i64 p.ins[k].op, .int .i64 y.arg, .int .i64 y.k, .int .i64 y.n, .string y.s, .slice y.A y.m y.c, .int .i64 y.to] 45)).heap.size) := qh (by simp)
   clear hI ho
   cases q : (p.ins[k].op == 9) with
   | true =>
    have SV : Hid (m + 1 = cnt9 (opsC p) (k + 1)) := qh (by rw [SU.out, if_pos (by simpa using q)])
    go_wp2_with fail
    go_roundw
    case rel => exact ⟨k + 1, by omega, by go_num, ⟨m + 1, by omega, by go_num, SV⟩, qh ⟨Below.alloc HB.out.1 HB.out.1.size _, HB.out.2.below (Below.alloc (Below.refl _ _) (Nat.le_refl _) _)⟩⟩
    case measure => simp [intOf]; omega
   | false =>
    have SV : Hid (m = cnt9 (opsC p) (k + 1)) := qh (by rw [SU.out, if_neg (by simpa using q)]; omega)
    go_wp2_with fail
    go_roundw
    case rel => exact ⟨k + 1, by omega, by go_num, ⟨m, by omega, rfl, SV⟩, qh ⟨Below.alloc HB.out.1 HB.out.1.size _, HB.out.2.below (Below.alloc (Below.refl _ _) (Nat.le_refl _) _)⟩⟩
    case measure => simp [intOf]; omega
  ·obtain ⟨p0, p1, p2, p3, p4⟩ := HB.out.2
   simp only at p0 p1 p2 p3 p4
   have HMM : Hid (m = cnt9 (opsC p) p.ins.length) := qh (by rw [HM.out]; congr 1; omega)
   by_cases hc : m = p.entry.length
   case neg =>
    have qc : ((m : Int) != (p.entry.length : Int)) = true := by simp; omega
    have F : Hid (¬ HeadOk p) := qh (fun h => hc (by rw [HMM.out]; exact head_cnt h))
    clear hc
    go_wp2_with fail
    go_ret
    exact ⟨ret_bool (decP_no F.out).symm, HB.out.1⟩
   have qc : ((m : Int) != (p.entry.length : Int)) = false := by simp [hc]
   have CN : Hid (cnt9 (opsC p) p.ins.length = p.entry.length) := qh (by rw [← HMM.out]; exact hc)
   rename World => wq
   clear hc HM HMM
   go_wp2_with fail
   go_loopw [50] (fun i wr => ∃ k : Nat, k ≤ p.entry.length ∧ i = .int .i64 k ∧ Hid (Below w.heap.size w wr ∧ Box5 wr w.heap.size ⟨gA, gc, lA, lc, pA, pc, some ⟨b, off, none⟩, ec, iA, ic⟩ p) ∧ Hid (∀ i, i < k → LastAt p i)) (fun i _ => p.entry.length - (intOf i).toNat)
   case atStart => exact ⟨0, Nat.zero_le _, rfl, HB, qh (fun i h => by omega)⟩
   case round =>
    obtain ⟨k, hk, rfl, HB, HT⟩ := hrel
    obtain ⟨p0, p1, p2, p3, p4⟩ := HB.out.2
    simp only at p0 p1 p2 p3 p4
    by_cases hlt : k < p.entry.length
    ·obtain ⟨b', off', e1, hcell⟩ := rd_int (HP.out.belowA HB.out.1).e3 hlt
     simp only at e1
     injection e1 with e1
     injection e1 with e2 e3
     subst e2 e3
     have h0k : (0 : Int) ≤ (k : Int) := by omega
     have h1k : (k : Int) < (p.entry.length : Int) := by omega
     have hnn := last_nn HZ.out hlt HT.out
     rw [getD_get hlt] at hnn
     by_cases hn : k + 1 < p.entry.length
     ·obtain ⟨b', off', e1, hcell1⟩ := rd_int (HP.out.belowA HB.out.1).e3 hn
      simp only at e1
      injection e1 with e1
      injection e1 with e2 e3
      subst e2 e3
      have h3k : (k : Int) + 1 < (p.entry.length : Int) := by omega
      have hz2 := (HP.out.e4 p.entry[k + 1] (List.getElem_mem hn)).2
      have ZF : Hid (finE p.entry p.ins.length k = p.entry[k + 1]) := qh (by rw [finE_in hn, getD_get hn])
      by_cases g1 : p.entry[k + 1] ≤ p.entry[k]
      ·have F : Hid (¬ HeadOk p) := qh (fun h => last_no1 hlt ZF.out g1 (head_last h hlt))
       go_wp2_with fail
       go_quiet (fail)
       go_wp2_with fail
       go_ret
       exact ⟨ret_bool (decP_no F.out).symm, below_drewN HB.out.1 _⟩
      by_cases g2 : (p.ins.length : Int) < p.entry[k + 1]
      ·have F : Hid (¬ HeadOk p) := qh (fun h => last_no2 ZF.out g2 (head_last h hlt))
       go_wp2_with fail
       go_quiet (fail)
       go_wp2_with fail
       go_ret
       exact ⟨ret_bool (decP_no F.out).symm, below_drewN HB.out.1 _⟩
      have hj : (p.entry[k + 1] - 1).toNat < p.ins.length := by omega
      obtain ⟨ib, ioff, y, e1, _, ⟨d0, _⟩, hI⟩ := rd_ins (HP.out.belowA HB.out.1).i3 hj
      simp only at e1
      subst e1
      rw [hI.1] at d0
      clear hI
      have w1 : (0 : Int) ≤ p.entry[k + 1] - 1 := by omega
      have w2 : (1 : Int) ≤ p.entry[k + 1] := by omega
      have w3 : p.entry[k + 1] - 1 < (p.ins.length : Int) := by omega
      obtain ⟨oo, ho⟩ : ∃ oo, p.ins[(p.entry[k + 1] - 1).toNat].op = oo := ⟨_, rfl⟩
      rw [ho] at d0
      have d0' : wr.cell? ⟨ib, ioff + (p.entry[k + 1].toNat - 1) * 7, none⟩ = some (.int .i64 oo) := by rw [show p.entry[k + 1].toNat - 1 = (p.entry[k + 1] - 1).toNat from by omega]; exact d0
      have HO := qh ho
      clear ho
      cases g3 : (oo != 9) with
      | true =>
       have F : Hid (¬ HeadOk p) := qh (fun h => last_no3 ZF.out hj (by rw [HO.out]; exact g3) (head_last h hlt))
       go_wp2_with fail
       go_quiet (fail)
       go_wp2_with fail
       go_ret
       exact ⟨ret_bool (decP_no F.out).symm, below_drewN HB.out.1 _⟩
      | false =>
       have T : Hid (∀ i, i < k + 1 → LastAt p i) := qh (fun i hi => by
        by_cases e : i = k
        ·subst e; exact last_yes hlt ZF.out (by omega) (by omega) hj (by rw [HO.out]; exact g3)
        ·exact HT.out i (by omega))
       go_wp2_with fail
       go_quiet (fail)
       go_wp2_with fail
       go_roundw
       case rel => exact ⟨k + 1, by omega, by go_num, qh ⟨below_drewN HB.out.1 _, HB.out.2⟩, T⟩
       case measure => simp [intOf]; omega
     ·have h3k : ¬ (k : Int) + 1 < (p.entry.length : Int) := by omega
      have ZF : Hid (finE p.entry p.ins.length k = (p.ins.length : Int)) := qh (finE_out (by omega))
      by_cases g1 : (p.ins.length : Int) ≤ p.entry[k]
      ·have F : Hid (¬ HeadOk p) := qh (fun h => last_no1 hlt ZF.out g1 (head_last h hlt))
       go_wp2_with fail
       go_quiet (fail)
       go_wp2_with fail
       go_ret
       exact ⟨ret_bool (decP_no F.out).symm, below_drewN HB.out.1 _⟩
      have hj : ((p.ins.length : Int) - 1).toNat < p.ins.length := by omega
      obtain ⟨ib, ioff, y, e1, _, ⟨d0, _⟩, hI⟩ := rd_ins (HP.out.belowA HB.out.1).i3 hj
      simp only at e1
      subst e1
      rw [hI.1] at d0
      clear hI
      have w1 : (0 : Int) ≤ (p.ins.length : Int) - 1 := by omega
      have w2 : (1 : Int) ≤ (p.ins.length : Int) := by omega
      have w3 : (p.ins.length : Int) - 1 < (p.ins.length : Int) := by omega
      obtain ⟨oo, ho⟩ : ∃ oo, p.ins[((p.ins.length : Int) - 1).toNat].op = oo := ⟨_, rfl⟩
      rw [ho] at d0
      have d0' : wr.cell? ⟨ib, ioff + (p.ins.length - 1) * 7, none⟩ = some (.int .i64 oo) := by rw [show p.ins.length - 1 = ((p.ins.length : Int) - 1).toNat from by omega]; exact d0
      have HO := qh ho
      clear ho
      cases g3 : (oo != 9) with
      | true =>
       have F : Hid (¬ HeadOk p) := qh (fun h => last_no3 ZF.out hj (by rw [HO.out]; exact g3) (head_last h hlt))
       go_wp2_with fail
       go_quiet (fail)
       go_wp2_with fail
       go_ret
       exact ⟨ret_bool (decP_no F.out).symm, below_drewN HB.out.1 _⟩
      | false =>
       have T : Hid (∀ i, i < k + 1 → LastAt p i) := qh (fun i hi => by
        by_cases e : i = k
        ·subst e; exact last_yes hlt ZF.out (by omega) (by omega) hj (by rw [HO.out]; exact g3)
        ·exact HT.out i (by omega))
       go_wp2_with fail
       go_quiet (fail)
       go_wp2_with fail
       go_roundw
       case rel => exact ⟨k + 1, by omega, by go_num, qh ⟨below_drewN HB.out.1 _, HB.out.2⟩, T⟩
       case measure => simp [intOf]; omega
    ·have T : Hid (HeadOk p) := qh (head_mkI NB.out H7.out (by omega) HZ.out CN.out (fun i hi => HT.out i (by omega)))
     go_wp2_with fail
     go_ret
     exact ⟨ret_bool (decP_yes T.out).symm, HB.out.1⟩
def argM (p : Cd) (op : Int) : Int := if op = 1 then (p.globals.length : Int) else if op = 4 ∨ op = 5 then (p.procs.length : Int) else if op = 6 ∨ op = 7 then (p.locks.length : Int) else 1
theorem argM_most (p : Cd) (op : Int) : argM p op = mostC p op + 1 := by
 unfold argM mostC
 by_cases h1 : op = 1
 ·rw [if_pos h1, if_pos h1]; omega
 ·rw [if_neg h1, if_neg h1]
  by_cases h2 : op = 4 ∨ op = 5
  ·rw [if_pos h2, if_neg (by omega), if_pos h2]; omega
  ·rw [if_neg h2]
   by_cases h3 : op = 6 ∨ op = 7
   ·rw [if_pos h3, if_pos h3]; omega
   ·rw [if_neg h3, if_neg h3, if_neg h2]; omega
theorem impl_argMost (p : Cd) (x : V5) (w : World) (hp : CdIs w x p) (op : Int) :
  Calls Tryz.prog 58 #[x.val p, .int .i64 op] w fun e w' => e = .returned (.int .i64 (argM p op)) ∧ Below w.heap.size w w' := by
 obtain ⟨gA, gc, lA, lc, pA, pc, eA, ec, iA, ic⟩ := x
 have HP := qh hp
 have hgl := hp.g1
 have hgc := hp.g2
 have hll := hp.l1
 have hlc := hp.l2
 have hpl := hp.p1
 have hpc := hp.p2
 have hel := hp.e1
 have hec := hp.e2
 have hil := hp.i1
 have hic := hp.i2
 simp only at hgl hgc hll hlc hpl hpc hel hec hil hic
 clear hp
 unfold V5.val
 simp only
 unfold maxLen at hgc hlc hpc hec hic
 by_cases h1 : op = 1
 ·subst h1
  have E : Hid (argM p 1 = (p.globals.length : Int)) := qh (by simp [argM])
  go_enter Tryz.func58, Tryz.ntmps58
  go_wp2_with fail
  go_ret
  exact ⟨ret_int E.out.symm, zB⟩
 by_cases h4 : op = 4
 ·subst h4
  have E : Hid (argM p 4 = (p.procs.length : Int)) := qh (by simp [argM])
  go_enter Tryz.func58, Tryz.ntmps58
  go_wp2_with fail
  go_ret
  exact ⟨ret_int E.out.symm, zB⟩
 by_cases h5 : op = 5
 ·subst h5
  have E : Hid (argM p 5 = (p.procs.length : Int)) := qh (by simp [argM])
  go_enter Tryz.func58, Tryz.ntmps58
  go_wp2_with fail
  go_ret
  exact ⟨ret_int E.out.symm, zB⟩
 by_cases h6 : op = 6
 ·subst h6
  have E : Hid (argM p 6 = (p.locks.length : Int)) := qh (by simp [argM])
  go_enter Tryz.func58, Tryz.ntmps58
  go_wp2_with fail
  go_ret
  exact ⟨ret_int E.out.symm, zB⟩
 by_cases h7 : op = 7
 ·subst h7
  have E : Hid (argM p 7 = (p.locks.length : Int)) := qh (by simp [argM])
  go_enter Tryz.func58, Tryz.ntmps58
  go_wp2_with fail
  go_ret
  exact ⟨ret_int E.out.symm, zB⟩
 have E : Hid (argM p op = 1) := qh (by unfold argM; rw [if_neg h1, if_neg (by omega), if_neg (by omega)])
 have f1 : (op == 1) = false := by simpa using h1
 have f4 : (op == 4) = false := by simpa using h4
 have f5 : (op == 5) = false := by simpa using h5
 have f6 : (op == 6) = false := by simpa using h6
 have f7 : (op == 7) = false := by simpa using h7
 clear h1 h4 h5 h6 h7
 go_enter Tryz.func58, Tryz.ntmps58
 go_wp2_with fail
 go_ret
 exact ⟨ret_int E.out.symm, zB⟩
theorem impl_endOfProc (p : Cd) (x : V5) (w : World) (hp : CdIs w x p) (j : Nat) (hj : j < p.entry.length) :
  Calls Tryz.prog 25 #[x.val p, .int .i64 (j : Int)] w fun e w' => e = .returned (.int .i64 (finE p.entry p.ins.length j)) ∧ Below w.heap.size w w' := by
 obtain ⟨gA, gc, lA, lc, pA, pc, eA, ec, iA, ic⟩ := x
 have HP := qh hp
 have hgl := hp.g1
 have hgc := hp.g2
 have hll := hp.l1
 have hlc := hp.l2
 have hpl := hp.p1
 have hpc := hp.p2
 have hel := hp.e1
 have hec := hp.e2
 have hil := hp.i1
 have hic := hp.i2
 simp only at hgl hgc hll hlc hpl hpc hel hec hil hic
 clear hp
 unfold V5.val
 simp only
 unfold maxLen at hgc hlc hpc hec hic
 have h0 : (0 : Int) ≤ (j : Int) := by omega
 by_cases h : j + 1 < p.entry.length
 ·obtain ⟨b, off, rfl, hcell⟩ := rd_int HP.out.e3 h
  have hbl := cell_lt hcell
  simp only at hbl
  have h1 : (j : Int) + 1 < (p.entry.length : Int) := by omega
  have E : Hid (finE p.entry p.ins.length j = p.entry[j + 1]) := qh (by rw [finE_in h, getD_get h])
  go_enter Tryz.func25, Tryz.ntmps25
  go_wp2_with fail
  go_ret
  exact ⟨ret_int E.out.symm, zB⟩
 ·have h1 : ¬ (j : Int) + 1 < (p.entry.length : Int) := by omega
  have E : Hid (finE p.entry p.ins.length j = (p.ins.length : Int)) := qh (finE_out (by omega))
  go_enter Tryz.func25, Tryz.ntmps25
  go_wp2_with fail
  go_ret
  exact ⟨ret_int E.out.symm, zB⟩
theorem impl_isPlace (p : Cd) (x : V5) (w : World) (hp : CdIs w x p) (a : Int) :
  Calls Tryz.prog 30 #[x.val p, .int .i64 a] w fun e w' => e = .returned (.bool (inB a 0 ((p.ins.length : Int) - 1))) ∧ Below w.heap.size w w' := by
 obtain ⟨gA, gc, lA, lc, pA, pc, eA, ec, iA, ic⟩ := x
 have HP := qh hp
 have hgl := hp.g1
 have hgc := hp.g2
 have hll := hp.l1
 have hlc := hp.l2
 have hpl := hp.p1
 have hpc := hp.p2
 have hel := hp.e1
 have hec := hp.e2
 have hil := hp.i1
 have hic := hp.i2
 simp only at hgl hgc hll hlc hpl hpc hel hec hil hic
 clear hp
 unfold V5.val
 simp only
 unfold maxLen at hgc hlc hpc hec hic
 by_cases h0 : 0 ≤ a
 ·by_cases h1 : a < (p.ins.length : Int)
  ·have E : Hid (inB a 0 ((p.ins.length : Int) - 1) = true) := qh (by unfold inB; rw [decide_eq_true h0, decide_eq_true (by omega)]; rfl)
   go_enter Tryz.func30, Tryz.ntmps30
   go_wp2_with fail
   go_ret
   exact ⟨ret_bool E.out.symm, zB⟩
  ·have E : Hid (inB a 0 ((p.ins.length : Int) - 1) = false) := qh (by unfold inB; rw [decide_no (by omega : ¬ a ≤ (p.ins.length : Int) - 1)]; simp)
   go_enter Tryz.func30, Tryz.ntmps30
   go_wp2_with fail
   go_ret
   exact ⟨ret_bool E.out.symm, zB⟩
 ·have E : Hid (inB a 0 ((p.ins.length : Int) - 1) = false) := qh (by unfold inB; rw [decide_no h0]; rfl)
  have h0' : a < 0 := by omega
  go_enter Tryz.func30, Tryz.ntmps30
  go_wp2_with fail
  go_ret
  exact ⟨ret_bool E.out.symm, zB⟩
theorem impl_procIn (p : Cd) (x : V5) (w : World) (hp : CdIs w x p) (a : Int) (h0 : 0 ≤ a) (hh : HeadOk p) :
  Calls Tryz.prog 31 #[x.val p, .int .i64 a] w fun e w' => e = .returned (.int .i64 (procE p.entry a p.entry.length)) ∧ Below w.heap.size w w' := by
 obtain ⟨gA, gc, lA, lc, pA, pc, eA, ec, iA, ic⟩ := x
 have hl0 : 0 < p.entry.length := by rw [hh.same]; exact namB_pos hh.nam
 have HZ := qh hh.ent.zero
 have HR := qh (by have := hh.ent.rise; rw [opsC_len] at this; exact this : ∀ i, i < p.entry.length → p.entry.getD i 0 < finE p.entry p.ins.length i)
 clear hh
 have HP := qh hp
 have hgl := hp.g1
 have hgc := hp.g2
 have hll := hp.l1
 have hlc := hp.l2
 have hpl := hp.p1
 have hpc := hp.p2
 have hel := hp.e1
 have hec := hp.e2
 have hil := hp.i1
 have hic := hp.i2
 simp only at hgl hgc hll hlc hpl hpc hel hec hil hic
 clear hp
 unfold V5.val
 simp only
 unfold maxLen at hgc hlc hpc hec hic
 obtain ⟨b, off, rfl, hcell0⟩ := rd_int HP.out.e3 hl0
 have hbl := cell_lt hcell0
 simp only at hbl
 clear hcell0
 go_enter Tryz.func31, Tryz.ntmps31
 go_wp2_with fail
 go_loop [5] (fun i => ∃ k : Nat, k < p.entry.length ∧ i = .int .i64 k ∧ Hid (p.entry.getD k 0 ≤ a)) (fun i => p.entry.length - (intOf i).toNat)
 case atStart => exact ⟨0, hl0, rfl, qh (by rw [getD_any hl0 0 1, HZ.out]; exact h0)⟩
 case round =>
  obtain ⟨k, hk, rfl, HT⟩ := hrel
  have h0k : (0 : Int) ≤ (k : Int) := by omega
  by_cases hn : k + 1 < p.entry.length
  ·obtain ⟨b', off', e1, hcell⟩ := rd_int HP.out.e3 hn
   simp only at e1
   injection e1 with e1
   injection e1 with e2 e3
   subst e2 e3
   have h1 : (k : Int) + 1 < (p.entry.length : Int) := by omega
   by_cases g : p.entry[k + 1] ≤ a
   ·have T : Hid (p.entry.getD (k + 1) 0 ≤ a) := qh (by rw [getD_get hn]; exact g)
    go_wp2_with fail
    go_round
    case rel => exact ⟨k + 1, hn, by go_num, T⟩
    case measure => simp [intOf]; omega
   ·have g' : a < p.entry[k + 1] := by omega
    have E : Hid (procE p.entry a p.entry.length = (k : Int)) := qh (procE_in HR.out hk HT.out (by rw [finE_in hn, getD_get hn]; exact g'))
    clear g
    go_wp2_with fail
    go_ret
    exact ⟨ret_int E.out.symm, zB⟩
  ·have h1 : ¬ (k : Int) + 1 < (p.entry.length : Int) := by omega
   have E : Hid (procE p.entry a p.entry.length = (k : Int)) := qh (procE_at hk HT.out (fun j a b => by omega))
   go_wp2_with fail
   go_ret
   exact ⟨ret_int E.out.symm, zB⟩
end Go.Proofs.YtnmblfonmfjoeaaGreatDoor
