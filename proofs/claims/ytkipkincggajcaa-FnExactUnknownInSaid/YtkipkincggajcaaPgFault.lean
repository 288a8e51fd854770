/- UnknownIn and ProgFault, in the reference and in the program. -/
import Derived.Test.YtkipkincggajcaaUnkTop
import Derived.Test.YtkipkincggajcaaTwice
namespace Go.Proofs.Ytkipkincggajcaa
open Go.RowKit
set_option linter.unusedVariables false

theorem unkR_len {p : Pg} (htot : totPg p ≤ 1048576) : (unkR p).length ≤ 10000000 := by
  cases h : okPg p with
  | false => rw [unkR_no h]; simp
  | true =>
    have h1 := unkP_len p.globals p.locks (pnames p.procs) p.procs p.procs.length
    rw [unkR_yes h]
    rw [List.take_of_length_le (Nat.le_refl _)] at h1
    have h2 : totPg p = totS p.globals + totS p.locks + totPrs p.procs := rfl
    omega
set_option maxHeartbeats 800000 in
theorem impl_UnknownIn (p : Pg) (x : V3) (w : World) (hp : PgIs w x p) (htot : totPg p ≤ 1048576) :
    Calls Try.prog 51 #[x.val p] w fun e w' => ∃ v', e = .returned v' ∧ OwnStrs w w' v' (unkR p) := by
  have HP := Lib.hid hp
  obtain ⟨gA, gc, lA, lc, pA, pc⟩ := x
  unfold V3.val
  simp only
  clear hp
  cases h : okPg p with
  | false =>
    have HU := Lib.hid (unkR_no h)
    go_enter Try.func51, Try.ntmps51
    go_wp2_with fail
    refine (impl_ProgOk p ⟨gA, gc, lA, lc, pA, pc⟩ _ (HP.out.belowA (by repeat' (first | exact Below.refl _ _ | exact Nat.le_refl _ | (refine Below.alloc ?_ ?_ _) | (refine Below.setCell ?_ ?_ _) | (refine Below.drew ?_) | (refine below_drewN ?_ _) | assumption | (simp; done) | (simp; omega)))) htot).mono ?_
    rintro e w1 ⟨rfl, b1⟩
    have B1 : Hid (Below w.heap.size w w1) := Lib.hid (Below.trans (by repeat' (first | exact Below.refl _ _ | exact Nat.le_refl _ | (refine Below.alloc ?_ ?_ _) | (refine Below.setCell ?_ ?_ _) | (refine Below.drew ?_) | (refine below_drewN ?_ _) | assumption | (simp; done) | (simp; omega))) (b1.mono (by simp)))
    rw [h]
    clear b1 h
    go_wp2_with fail
    go_ret
    exact ⟨_, rfl, by rw [HU.out]; exact OwnStrs.nil B1.out⟩
  | true =>
    have HU := Lib.hid (unkR_yes h)
    have HH := Lib.hid h
    go_enter Try.func51, Try.ntmps51
    go_wp2_with fail
    refine (impl_ProgOk p ⟨gA, gc, lA, lc, pA, pc⟩ _ (HP.out.belowA (by repeat' (first | exact Below.refl _ _ | exact Nat.le_refl _ | (refine Below.alloc ?_ ?_ _) | (refine Below.setCell ?_ ?_ _) | (refine Below.drew ?_) | (refine below_drewN ?_ _) | assumption | (simp; done) | (simp; omega)))) htot).mono ?_
    rintro e w1 ⟨rfl, b1⟩
    have B1 : Hid (Below w.heap.size w w1) := Lib.hid (Below.trans (by repeat' (first | exact Below.refl _ _ | exact Nat.le_refl _ | (refine Below.alloc ?_ ?_ _) | (refine Below.setCell ?_ ?_ _) | (refine Below.drew ?_) | (refine below_drewN ?_ _) | assumption | (simp; done) | (simp; omega))) (b1.mono (by simp)))
    have BX1 : Hid (BoxB w1 w.heap.size [.slice gA p.globals.length gc, .slice lA p.locks.length lc, .slice pA p.procs.length pc]) := Lib.hid (BoxB.below (BoxB.lit rfl) b1)
    have p0 := BX1.out 0 _ rfl
    have p1 := BX1.out 1 _ rfl
    have p2 := BX1.out 2 _ rfl
    rw [h]
    clear b1 h
    go_wp2_with fail
    refine (impl_unknownOf p ⟨gA, gc, lA, lc, pA, pc⟩ _ (HP.out.belowA B1.out) HH.out).mono ?_
    rintro e w2 ⟨v2, rfl, own2⟩
    have O2 := Lib.hid (own2.base B1.out)
    obtain ⟨A2, c2, rfl, _⟩ := own2.slice
    clear own2
    go_wp2_with fail
    go_ret
    exact ⟨_, rfl, by rw [HU.out]; exact O2.out⟩
set_option maxHeartbeats 1600000 in
theorem spec_UnknownIn (p : Pg) (x : V3) (w : World) (hp : PgIs w x p) (htot : totPg p ≤ 1048576) :
    Calls Try.prog 52 #[x.val p] w fun e w' => ∃ v', e = .returned v' ∧ OwnStrs w w' v' (unkR p) := by
  have HP := Lib.hid hp
  have hpl := hp.p1
  have hpc := hp.p2
  obtain ⟨gA, gc, lA, lc, pA, pc⟩ := x
  unfold V3.val
  simp only at hpl hpc ⊢
  unfold maxLen at hpc
  clear hp
  have OE : Hid (OwnStrs w ((w.alloc (.cells #[.slice gA p.globals.length gc, .slice lA p.locks.length lc, .slice pA p.procs.length pc] 58)).alloc (.cells #[] 9)) (.slice (some ⟨w.heap.size + 1, 0, none⟩) 0 0) []) := Lib.hid (by
    have OE : OwnStrs w ((w.alloc (.cells #[.slice gA p.globals.length gc, .slice lA p.locks.length lc, .slice pA p.procs.length pc] 58)).alloc (.cells #[] 9)) (.slice (some ⟨(w.alloc (.cells #[.slice gA p.globals.length gc, .slice lA p.locks.length lc, .slice pA p.procs.length pc] 58)).heap.size, 0, none⟩) 0 0) [] := OwnStrs.empty (by repeat' (first | exact Below.refl _ _ | exact Nat.le_refl _ | (refine Below.alloc ?_ ?_ _) | (refine Below.setCell ?_ ?_ _) | (refine Below.drew ?_) | (refine below_drewN ?_ _) | assumption | (simp; done) | (simp; omega)))
    rwa [show (w.alloc (.cells #[.slice gA p.globals.length gc, .slice lA p.locks.length lc, .slice pA p.procs.length pc] 58)).heap.size = w.heap.size + 1 from by simp] at OE)
  have SE : Hid (Sane 9 ((w.alloc (.cells #[.slice gA p.globals.length gc, .slice lA p.locks.length lc, .slice pA p.procs.length pc] 58)).alloc (.cells #[] 9)) w.heap.size) := Lib.hid (sane_below (sane_new (by decide)) (by simp) (Below.alloc (Below.refl _ _) (Nat.le_refl _) _))
  have BE : Hid (BoxB ((w.alloc (.cells #[.slice gA p.globals.length gc, .slice lA p.locks.length lc, .slice pA p.procs.length pc] 58)).alloc (.cells #[] 9)) w.heap.size [.slice gA p.globals.length gc, .slice lA p.locks.length lc, .slice pA p.procs.length pc]) := Lib.hid (BoxB.below (BoxB.lit rfl) (Below.alloc (Below.refl _ _) (Nat.le_refl _) _))
  cases h : okPg p with
  | false =>
    have HU := Lib.hid (unkR_no h)
    have HH := Lib.hid h
    clear h
    go_enter Try.func52, Try.ntmps52
    go_wp2_with fail
    go_loopw [3, 4] (fun lv i wr => i = .int .i64 0 ∧ lv = .slice (some ⟨w.heap.size + 1, 0, none⟩) 0 0 ∧ Hid (OwnStrs w wr (.slice (some ⟨w.heap.size + 1, 0, none⟩) 0 0) []) ∧ Hid (BoxB wr w.heap.size [.slice gA p.globals.length gc, .slice lA p.locks.length lc, .slice pA p.procs.length pc])) (fun _ i _ => 1 - (intOf i).toNat)
    case atStart => exact ⟨rfl, rfl, OE, BE⟩
    case round =>
      obtain ⟨rfl, rfl, HO, HB⟩ := hrel
      have p0 := HB.out 0 _ rfl
      have p1 := HB.out 1 _ rfl
      have p2 := HB.out 2 _ rfl
      go_wp2_with fail
      refine (spec_ProgOk p ⟨gA, gc, lA, lc, pA, pc⟩ _ (HP.out.belowA HO.out.2) htot).mono ?_
      rintro e w1 ⟨rfl, b1⟩
      have O1 := Lib.hid (HO.out.below b1)
      rw [HH.out]
      clear b1
      go_wp2_with fail
      go_ret
      exact ⟨_, rfl, by rw [HU.out]; exact O1.out⟩
  | true =>
    have HU := Lib.hid (unkR_yes h)
    have HH := Lib.hid h
    have hpn := (okPg_procs h).1
    clear h
    go_enter Try.func52, Try.ntmps52
    go_wp2_with fail
    go_loopw [3, 4] (fun lv i wr => ∃ k : Nat, k ≤ p.procs.length ∧ i = .int .i64 k ∧ ∃ A' c', lv = .slice A' (unkP p.globals p.locks (pnames p.procs) (p.procs.take k)).length c' ∧ Hid (OwnStrs w wr (.slice A' (unkP p.globals p.locks (pnames p.procs) (p.procs.take k)).length c') (unkP p.globals p.locks (pnames p.procs) (p.procs.take k))) ∧ Hid (BoxB wr w.heap.size [.slice gA p.globals.length gc, .slice lA p.locks.length lc, .slice pA p.procs.length pc]) ∧ Hid (Sane 9 wr w.heap.size)) (fun _ i _ => p.procs.length - (intOf i).toNat)
    case atStart => exact ⟨0, Nat.zero_le _, rfl, _, _, rfl, OE, BE, SE⟩
    case round =>
      obtain ⟨k, hk, rfl, A', c', rfl, HO, HB, HS⟩ := hrel
      have p0 := HB.out 0 _ rfl
      have p1 := HB.out 1 _ rfl
      have p2 := HB.out 2 _ rfl
      have hul := unkP_len p.globals p.locks (pnames p.procs) p.procs k
      have htl := totPrs_take_le p.procs k
      have htp : totPrs p.procs ≤ 1048576 := by have : totPg p = totS p.globals + totS p.locks + totPrs p.procs := rfl; omega
      by_cases hlt : k < p.procs.length
      · obtain ⟨b, off, y, rfl, d0, d1, hnm, hym, _, hbc, hcm, row⟩ := rd_proc HP.out.p3 hlt
        rw [hym] at d1
        have D1 := Lib.hid d1
        have ROW := Lib.hid row
        have hlb := cell_lt d0
        have hqt := okPr_quiet HH.out hlt
        have QT := Lib.hid hqt
        have htb := tot_body hlt htot
        have HT := Lib.hid (unkP_take p.globals p.locks (pnames p.procs) p.procs k hlt)
        have h0k : (0 : Int) ≤ (k : Int) := by omega
        clear hnm hym row d0 d1 hqt
        go_wp2_with fail
        refine (spec_ProgOk p ⟨gA, gc, lA, lc, (some ⟨b, off, none⟩), pc⟩ _ (HP.out.belowA HO.out.2) htot).mono ?_
        rintro e w1 ⟨rfl, b1⟩
        have O1 := Lib.hid (HO.out.below b1)
        have X1 := Lib.hid (HB.out.below b1)
        have S1 := Lib.hid (sane_below HS.out (cell_lt p0) b1)
        have d1 := cell_keep O1.out.2 D1.out
        rw [HH.out]
        clear b1 p0 p1 p2
        have p0 := X1.out 0 _ rfl
        have p1 := X1.out 1 _ rfl
        have p2 := X1.out 2 _ rfl
        have hwl := cell_lt p0
        have D3 := Lib.hid d1
        go_wp2_with fail
        go_region_held3 (fun w' => w'.cell? ⟨w.heap.size, 0, none⟩ = some (.slice gA p.globals.length gc) ∧ w'.cell? ⟨w.heap.size, 1, none⟩ = some (.slice lA p.locks.length lc) ∧ w'.cell? ⟨w.heap.size, 2, none⟩ = some (.slice (some ⟨b, off, none⟩) p.procs.length pc) ∧ w'.cell? ⟨b, off + k * 2 + 1, none⟩ = some (.slice y.A p.procs[k].body.length y.c))
          (first | go_keep | exact ⟨kp2.cellT S1.out (X1.out 0 _ rfl), kp2.cellT S1.out (X1.out 1 _ rfl), kp2.cellT S1.out (X1.out 2 _ rfl), cell_keep own2.2 D1.out⟩)
          ((go_at_call 125; (refine (spec_l07Unknown p.procs[k].body p ⟨gA, gc, lA, lc, (some ⟨b, off, none⟩), pc⟩ y.A y.c w _ _ (unkP p.globals p.locks (pnames p.procs) (p.procs.take k)) HP.out ROW.out (by exact O1.out.below (Below.refl _ _).drew) hbc hcm QT.out (by omega) (by omega) htb).mono ?_); rintro e w2 ⟨v2, rfl, own2, kp2⟩))
        have O2 : Hid (OwnStrs w w2 v2 (unkP p.globals p.locks (pnames p.procs) (p.procs.take (k + 1)))) := Lib.hid (by rw [HT.out]; exact own2)
        have kq2 := KeepT.trans' (KeepT.of_below' (Below.refl _ _).drew) kp2
        have X2 := Lib.hid (X1.out.keepS kq2 S1.out)
        have S2 := Lib.hid (sane_keep S1.out hwl kq2)
        obtain ⟨A2, c2, rfl, _⟩ := O2.out.slice
        clear own2 kp2 kq2 p0 p1 p2 d1
        go_wp2_with fail
        go_roundw
        case rel => exact ⟨k + 1, by omega, by go_num, A2, c2, rfl, O2, X2, S2⟩
        case measure => simp [intOf]; omega
      · have TK : Hid (p.procs.take k = p.procs) := Lib.hid (List.take_of_length_le (by omega))
        go_wp2_with fail
        refine (spec_ProgOk p ⟨gA, gc, lA, lc, pA, pc⟩ _ (HP.out.belowA HO.out.2) htot).mono ?_
        rintro e w1 ⟨rfl, b1⟩
        have O1 := Lib.hid (HO.out.below b1)
        have X1 := Lib.hid (HB.out.below b1)
        rw [HH.out]
        clear b1 p0 p1 p2
        have p0 := X1.out 0 _ rfl
        have p1 := X1.out 1 _ rfl
        have p2 := X1.out 2 _ rfl
        go_wp2_with fail
        go_ret
        have := O1.out
        rw [TK.out] at this ⊢
        exact ⟨_, rfl, by rw [HU.out]; exact this⟩
end Go.Proofs.Ytkipkincggajcaa
