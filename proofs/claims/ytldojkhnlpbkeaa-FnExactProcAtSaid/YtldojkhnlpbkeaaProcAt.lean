/- Where a procedure stands, in the reference and in the program; the law over ProcAt. -/
import Derived.Test.YtldojkhnlpbkeaaPgEq
import Derived.Test.YtldojkhnlpbkeaaReadsLaw
namespace Go.Proofs.Ytldojkhnlpbkeaa
open Go.RowKit
set_option linter.unusedVariables false

def pnames (l : List Pr) : List ByteArray := l.map Pr.name
theorem pnames_len (l : List Pr) : (pnames l).length = l.length := by simp [pnames]
theorem pnames_get (l : List Pr) (i : Nat) (h : i < l.length) (h' : i < (pnames l).length) : (pnames l)[i] = l[i].name := by simp [pnames]
theorem pnames_take (l : List Pr) (i : Nat) : (pnames l).take i = pnames (l.take i) := by simp [pnames, List.map_take]
set_option maxHeartbeats 800000 in
theorem spec_ProcAt (p : Pg) (x : V3) (nm : ByteArray) (w : World) (hp : PgIs w x p) :
    Calls Try.prog 43 #[x.val p, .string nm] w fun e w' => e = .returned (.int .i64 (placeS (pnames p.procs) nm)) ∧ Below w.heap.size w w' := by
  obtain ⟨gs, ls, ps⟩ := p
  obtain ⟨gA, gc, lA, lc, pA, pc⟩ := x
  have RW := Lib.hid hp.p3
  have hpl := hp.p1
  have hpc := hp.p2
  simp only at RW hpl hpc
  unfold maxLen at hpc
  unfold V3.val
  simp only
  clear hp
  go_enter Try.func43, Try.ntmps43
  go_wp2_with fail
  go_loopw [5] (fun i wr => ∃ k : Nat, k ≤ ps.length ∧ i = .int .i64 k ∧ wr.cell? ⟨w.heap.size, 2, none⟩ = some (.slice pA ps.length pc) ∧ Below w.heap.size w wr ∧ Hid (∀ s ∈ (pnames ps).take k, s ≠ nm)) (fun i _ => ps.length - (intOf i).toNat)
  case atStart => exact ⟨0, Nat.zero_le _, rfl, by simp, (by repeat' (first | exact Below.refl _ _ | exact Nat.le_refl _ | (refine Below.alloc ?_ ?_ _) | (refine Below.setCell ?_ ?_ _) | (refine Below.drew ?_) | (refine below_drewN ?_ _) | assumption | (simp; done) | (simp; omega))), Lib.hid (by simp)⟩
  case round =>
    obtain ⟨k, hk, rfl, x2, hb, HT⟩ := hrel
    have HB := Lib.hid hb
    clear hb
    have hnl := pnames_len ps
    by_cases hlt : k < ps.length
    · obtain ⟨b, off, x, rfl, d0, d1, hpr⟩ := rd_proc (RW.out.belowA HB.out) hlt
      have hlt' : k < (pnames ps).length := by omega
      have hn : (pnames ps)[k] = x.s := by rw [pnames_get ps k hlt]; exact hpr.1
      have h0k : (0 : Int) ≤ (k : Int) := by omega
      have q := str_eq x.s nm
      clear hpr d1
      by_cases e : x.s = nm
      · have P := Lib.hid (placeS_at HT.out hlt' (hn.trans e))
        rw [decide_eq_true e] at q
        clear e hn
        go_wp2_with fail
        go_ret
        exact ⟨ret_int P.out.symm, HB.out⟩
      · have T := Lib.hid (take_all_succ HT.out hlt' (fun h => e (hn.symm.trans h)))
        rw [decide_no e] at q
        clear e hn
        go_wp2_with fail
        go_roundw
        case rel => exact ⟨k + 1, by omega, by go_num, x2, HB.out, Lib.hid T.out⟩
        case measure => simp [intOf]; omega
    · have P := Lib.hid (placeS_no (ss := pnames ps) (x := nm) (by have := HT.out; rwa [List.take_of_length_le (by omega)] at this))
      go_wp2_with fail
      go_ret
      exact ⟨ret_int P.out.symm, HB.out⟩
set_option maxHeartbeats 800000 in
theorem impl_procNames (p : Pg) (x : V3) (w : World) (hp : PgIs w x p) (hb : p.procs.length ≤ 10000000) :
    Calls Try.prog 82 #[x.val p] w fun e w' => ∃ A' c', e = .returned (.slice A' (pnames p.procs).length c') ∧ OwnStrs w w' (.slice A' (pnames p.procs).length c') (pnames p.procs) := by
  obtain ⟨gs, ls, ps⟩ := p
  obtain ⟨gA, gc, lA, lc, pA, pc⟩ := x
  have RW := Lib.hid hp.p3
  have hpl := hp.p1
  have hpc := hp.p2
  simp only at RW hpl hpc hb
  unfold maxLen at hpc
  unfold V3.val
  simp only
  clear hp
  go_enter Try.func82, Try.ntmps82
  go_wp2_with fail
  go_loopw [3, 9] (fun lv i wr => ∃ k : Nat, k ≤ ps.length ∧ i = .int .i64 k ∧ ∃ A' c', lv = .slice A' (pnames (ps.take k)).length c' ∧ Hid (OwnStrs w wr (.slice A' (pnames (ps.take k)).length c') (pnames (ps.take k)))) (fun _ i _ => ps.length - (intOf i).toNat)
  case atStart => exact ⟨0, Nat.zero_le _, rfl, none, 0, rfl, Lib.hid (OwnStrs.nil (by repeat' (first | exact Below.refl _ _ | exact Nat.le_refl _ | (refine Below.alloc ?_ ?_ _) | (refine Below.setCell ?_ ?_ _) | (refine Below.drew ?_) | (refine below_drewN ?_ _) | assumption | (simp; done) | (simp; omega))))⟩
  case round =>
    obtain ⟨k, hk, rfl, A', c', rfl, HO⟩ := hrel
    have hnl := pnames_len (ps.take k)
    by_cases hlt : k < ps.length
    · obtain ⟨b, off, x, rfl, d0, d1, hpr⟩ := rd_proc (RW.out.belowA HO.out.2) hlt
      have hlb := cell_lt d0
      have HN : Hid (pnames (ps.take (k + 1)) = pnames (ps.take k) ++ [x.s]) := Lib.hid (by
        have e : ps.take (k + 1) = ps.take k ++ [ps[k]] := List.take_succ_eq_append_getElem hlt
        rw [e, ← hpr.1]; unfold pnames; rw [List.map_append]; rfl)
      have h0k : (0 : Int) ≤ (k : Int) := by omega
      have hkl : (pnames (ps.take k)).length ≤ 10000000 := by rw [hnl, List.length_take]; omega
      have OA := Lib.hid (HO.out.alloc (.cells #[.string x.s, .slice x.A x.m x.c] 112))
      clear hpr hnl
      go_wp2_with (at_builtin; refine wpList_app_keepG (wr.heap.size + 1) (by simp) rfl _ _ _ rfl strT OA.out _ 1 rfl rfl rfl (by simp [Value.oneCell']) (by simp only [maxLen]; omega) (by omega) ?_; intro v2 w2 own2 kp2; have O2 : Hid (OwnStrs w w2 v2 (pnames (ps.take (k + 1)))) := Lib.hid (by rw [HN.out]; unfold OwnStrs; rw [List.length_append, ← map_snoc]; exact own2); obtain ⟨A2, c2, rfl, _⟩ := O2.out.slice; clear own2 kp2)
      go_roundw
      case rel => exact ⟨k + 1, by omega, by go_num, A2, c2, rfl, O2⟩
      case measure => simp [intOf]; omega
    · go_wp2_with fail
      go_ret
      have := HO.out
      rw [List.take_of_length_le (by omega)] at this ⊢
      exact ⟨_, _, rfl, this⟩
set_option maxHeartbeats 800000 in
theorem impl_ProcAt (p : Pg) (x : V3) (nm : ByteArray) (w : World) (hp : PgIs w x p) (hb : p.procs.length ≤ 10000000) :
    Calls Try.prog 45 #[x.val p, .string nm] w fun e w' => e = .returned (.int .i64 (placeS (pnames p.procs) nm)) ∧ Below w.heap.size w w' := by
  have HP := Lib.hid hp
  clear hp
  unfold V3.val
  go_enter Try.func45, Try.ntmps45
  go_wp2_with fail
  refine (impl_procNames p x _ (HP.out.belowA (by repeat' (first | exact Below.refl _ _ | exact Nat.le_refl _ | (refine Below.alloc ?_ ?_ _) | (refine Below.setCell ?_ ?_ _) | (refine Below.drew ?_) | (refine below_drewN ?_ _) | assumption | (simp; done) | (simp; omega)))) hb).mono ?_
  rintro e w1 ⟨A1, c1, rfl, own1⟩
  have O1 := Lib.hid own1
  have B1 : Hid (Below w.heap.size w w1) := Lib.hid (Below.trans (by repeat' (first | exact Below.refl _ _ | exact Nat.le_refl _ | (refine Below.alloc ?_ ?_ _) | (refine Below.setCell ?_ ?_ _) | (refine Below.drew ?_) | (refine below_drewN ?_ _) | assumption | (simp; done) | (simp; omega))) (own1.2.mono (by simp)))
  clear own1
  go_wp2_with fail
  refine (slices_Index _ (pnames p.procs) nm _ O1.out.isStrs).mono ?_
  rintro e w2 ⟨rfl, rfl⟩
  go_wp2_with fail
  go_ret
  exact ⟨rfl, B1.out⟩
set_option maxHeartbeats 1600000 in
theorem law_ProcAt (v : Value) (p : Pg) (nm : ByteArray) (w : World) (o : IsProg w v p) (hnm : nm.size ≤ maxLen) :
    Calls Try.prog 10 #[v, .string nm] w fun e w' => e = .returned (.bool true) ∧ Below w.heap.size w w' := by
  obtain ⟨x, rfl, hp⟩ := o
  have HP := Lib.hid hp
  clear hp
  unfold maxLen at hnm
  by_cases h0 : 1048576 < nm.size
  · unfold V3.val
    go_enter Try.func10, Try.ntmps10
    go_wp2_with fail
    go_ret
    exact ⟨rfl, (by repeat' (first | exact Below.refl _ _ | exact Nat.le_refl _ | (refine Below.alloc ?_ ?_ _) | (refine Below.setCell ?_ ?_ _) | (refine Below.drew ?_) | (refine below_drewN ?_ _) | assumption | (simp; done) | (simp; omega)))⟩
  by_cases h1 : (1048576 : Int) - (totPg p : Int) < 0
  · have C1 := Lib.hid (cut0_neg h1)
    unfold V3.val
    go_enter Try.func10, Try.ntmps10
    go_wp2_with fail
    refine (laws_szProg p x _ 1048576 (HP.out.belowA (by repeat' (first | exact Below.refl _ _ | exact Nat.le_refl _ | (refine Below.alloc ?_ ?_ _) | (refine Below.setCell ?_ ?_ _) | (refine Below.drew ?_) | (refine below_drewN ?_ _) | assumption | (simp; done) | (simp; omega)))) (by omega) (by omega)).mono ?_
    rintro e w1 ⟨rfl, b1⟩
    have B1 : Hid (Below w.heap.size w w1) := Lib.hid (Below.trans (by repeat' (first | exact Below.refl _ _ | exact Nat.le_refl _ | (refine Below.alloc ?_ ?_ _) | (refine Below.setCell ?_ ?_ _) | (refine Below.drew ?_) | (refine below_drewN ?_ _) | assumption | (simp; done) | (simp; omega))) (b1.mono (by simp)))
    rw [C1.out]
    clear b1
    go_wp2_with fail
    go_ret
    exact ⟨rfl, B1.out⟩
  have C1 := Lib.hid (cut0_pos (n := (1048576 : Int) - (totPg p : Int)) (by omega))
  have htot : totPg p ≤ 1048576 := by omega
  have h1' : 0 ≤ (1048576 : Int) - (totPg p : Int) := by omega
  have hpl : p.procs.length ≤ 10000000 := by have := totPrs_len p.procs; simp only [totPg] at htot; omega
  unfold V3.val
  go_enter Try.func10, Try.ntmps10
  go_wp2_with fail
  refine (laws_szProg p x _ 1048576 (HP.out.belowA (by repeat' (first | exact Below.refl _ _ | exact Nat.le_refl _ | (refine Below.alloc ?_ ?_ _) | (refine Below.setCell ?_ ?_ _) | (refine Below.drew ?_) | (refine below_drewN ?_ _) | assumption | (simp; done) | (simp; omega)))) (by omega) (by omega)).mono ?_
  rintro e w1 ⟨rfl, b1⟩
  have H1 : Hid (Below w.heap.size w w1) := Lib.hid (Below.trans (by repeat' (first | exact Below.refl _ _ | exact Nat.le_refl _ | (refine Below.alloc ?_ ?_ _) | (refine Below.setCell ?_ ?_ _) | (refine Below.drew ?_) | (refine below_drewN ?_ _) | assumption | (simp; done) | (simp; omega))) (b1.mono (by simp)))
  have BX1 : Hid (BoxB w1 w.heap.size [.slice x.gA p.globals.length x.gc, .slice x.lA p.locks.length x.lc, .slice x.pA p.procs.length x.pc]) := Lib.hid (BoxB.below (BoxB.lit rfl) b1)
  rw [C1.out]
  clear b1
  have p0 := BX1.out 0 _ rfl
  have p1 := BX1.out 1 _ rfl
  have p2 := BX1.out 2 _ rfl
  go_wp2_with fail
  refine (laws_toProg p x _ (HP.out.belowA H1.out) htot).mono ?_
  rintro e w2 ⟨x2, rfl, o2, b2⟩
  have T2 := Lib.hid o2.any
  have H2 := Lib.hid (below_then H1.out b2)
  have BX2 := Lib.hid (BX1.out.below b2)
  clear b2 o2 p0 p1 p2 BX1 H1
  go_wp2_with fail
  refine (spec_ProcAt p x2 nm _ T2.out).mono ?_
  rintro e w3 ⟨rfl, b3⟩
  have H3 := Lib.hid (below_then H2.out b3)
  have BX3 := Lib.hid (BX2.out.below b3)
  clear b3 BX2 H2 T2
  have p0 := BX3.out 0 _ rfl
  have p1 := BX3.out 1 _ rfl
  have p2 := BX3.out 2 _ rfl
  go_wp2_with fail
  refine (laws_toProg p x _ (HP.out.belowA H3.out) htot).mono ?_
  rintro e w4 ⟨x4, rfl, o4, b4⟩
  have T4 := Lib.hid o4.any
  have H4 := Lib.hid (below_then H3.out b4)
  have BX4 := Lib.hid (BX3.out.below b4)
  clear b4 o4 p0 p1 p2 BX3 H3
  unfold V3.val
  go_wp2_with fail
  refine (impl_ProcAt p x4 nm _ (T4.out.belowA (by repeat' (first | exact Below.refl _ _ | exact Nat.le_refl _ | (refine Below.alloc ?_ ?_ _) | (refine Below.setCell ?_ ?_ _) | (refine Below.drew ?_) | (refine below_drewN ?_ _) | assumption | (simp; done) | (simp; omega)))) hpl).mono ?_
  rintro e w5 ⟨rfl, b5⟩
  have B5 : Below w4.heap.size w4 w5 := Below.trans (Below.alloc (Below.refl _ _) (Nat.le_refl _) _) (b5.mono (by simp))
  have BY5 : Hid (BoxB w5 w4.heap.size [.slice x4.gA p.globals.length x4.gc, .slice x4.lA p.locks.length x4.lc, .slice x4.pA p.procs.length x4.pc]) := Lib.hid (BoxB.below (BoxB.lit rfl) b5)
  have BX5 := Lib.hid (BX4.out.below B5)
  have T5 := Lib.hid (T4.out.belowA B5)
  have H5 := Lib.hid (below_then H4.out B5)
  have P5 := Lib.hid (HP.out.belowA H5.out)
  have hne : (placeS (pnames p.procs) nm != placeS (pnames p.procs) nm) = false := by simp
  have st : decB (p = p) = true := decB_yes rfl
  clear b5 B5 BX4 H4 T4
  have p0 := BX5.out 0 _ rfl
  have p1 := BX5.out 1 _ rfl
  have p2 := BX5.out 2 _ rfl
  have r0 := BY5.out 0 _ rfl
  have r1 := BY5.out 1 _ rfl
  have r2 := BY5.out 2 _ rfl
  go_wp2_with fail
  go_region_held3 (fun w' => w'.cell? ⟨w.heap.size, 0, none⟩ = some (.slice x.gA p.globals.length x.gc) ∧ w'.cell? ⟨w.heap.size, 1, none⟩ = some (.slice x.lA p.locks.length x.lc) ∧ w'.cell? ⟨w.heap.size, 2, none⟩ = some (.slice x.pA p.procs.length x.pc) ∧ w'.cell? ⟨w4.heap.size, 0, none⟩ = some (.slice x4.gA p.globals.length x4.gc) ∧ w'.cell? ⟨w4.heap.size, 1, none⟩ = some (.slice x4.lA p.locks.length x4.lc) ∧ w'.cell? ⟨w4.heap.size, 2, none⟩ = some (.slice x4.pA p.procs.length x4.pc))
    (first | go_keep | (go_split_ands; refine ⟨?_, ?_, ?_, ?_, ?_, ?_⟩ <;> first | exact cell_keep b10 (by assumption) | exact cell_keep b9 (by assumption)))
    (first
      | (go_at_call 44; (refine (laws_toProg p x _ (by exact P5.out.drew) htot).mono ?_); rintro e w9 ⟨x9, rfl, o9, b9⟩; unfold V3.val)
      | (go_at_call 46; refine (laws_eqProg p p x4 x9 _ (by exact T5.out.drew.belowA b9) (by exact o9.any)).mono ?_; rintro e w10 ⟨rfl, b10⟩))
  have b910 : Below w5.heap.size w5 w10 := below_then (Below.trans (Below.refl _ _).drew b9) b10
  have H10 := Lib.hid (below_then H5.out b910)
  clear b9 b10 b910 o9
  go_wp2_with fail
  go_ret
  exact ⟨rfl, H10.out⟩
end Go.Proofs.Ytldojkhnlpbkeaa
