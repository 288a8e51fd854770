/- Lemmas for the row. -/
import Derived.Test.YtadcebdhgocmhaaKo21
import Derived.Test.YtadcebdhgocmhaaKo13
import Derived.Test.YtadcebdhgocmhaaKo10
namespace Go.Proofs.Ytadcebdhgocmhaa
open Go.RowKit
set_option linter.unusedVariables false
def readsR (t : Tm) : List ByteArray := if okT 6 t = true then readsT [] t else []
theorem readsR_yes {t : Tm} (h : okT 6 t = true) : readsR t = readsT [] t := by simp [readsR, h]
theorem readsR_no {t : Tm} (h : okT 6 t = false) : readsR t = [] := by simp [readsR, h]
theorem readsR_len (t : Tm) : (readsR t).length ≤ nodes t := by
  unfold readsR
  split
  · have := readsT_len [] t; simpa using this
  · simp
theorem OwnStrs.nil {w0 w : World} (h : Below w0.heap.size w0 w) : OwnStrs w0 w (.slice none 0 0) [] := Own.startB h _ _
theorem OwnStrs.empty {w0 w : World} (h : Below w0.heap.size w0 w) : OwnStrs w0 (w.alloc (.cells #[] 9)) (.slice (some ⟨w.heap.size, 0, none⟩) 0 0) [] := Own.lit h _ 1 0 #[] (by simp [maxLen]) rfl
theorem OwnStrs.base {w0 w1 w : World} {v : Value} {ss : List ByteArray} (h : OwnStrs w1 w v ss) (hb : Below w0.heap.size w0 w1) : OwnStrs w0 w v ss := by
  refine ⟨⟨h.1.1, ?_⟩, hb.trans (h.2.mono hb.size)⟩
  rcases h.1.2 with h' | ⟨g, cap, cur, e, hg, r⟩
  · exact .inl h'
  · exact .inr ⟨g, cap, cur, e, Nat.le_trans hb.size hg, r⟩
theorem OwnStrs.keepS {w0 w w' : World} {v : Value} {ss : List ByteArray} {S : Nat → Prop} (h : OwnStrs w0 w v ss) (hk : Keep S w w') (hv : ∀ b, v.ownBlock = some b → S b) (hs : ∀ b, b < w0.heap.size → S b) : OwnStrs w0 w' v ss := by
  refine ⟨⟨h.1.1, ?_⟩, h.2.trans (hk.below h.2.size hs)⟩
  rcases h.1.2 with h' | ⟨g, cap, cur, rfl, hg, hh, r⟩
  · exact .inl h'
  · exact .inr ⟨g, cap, cur, rfl, hg, (hk.block g (lt_of_block hh) (hv g rfl)).trans hh, r⟩
theorem OwnStrs.inB {w0 w : World} {v : Value} {ss : List ByteArray} (h : OwnStrs w0 w v ss) : ∀ b, v.ownBlock = some b → w0.heap.size ≤ b ∧ b < w.heap.size := fun b hb => h.1.lt b hb
set_option maxHeartbeats 400000 in
theorem spec_ReadsOf (t : Tm) (k n : Int) (s : ByteArray) (A : Option Addr) (m c : Nat) (w : World) (ht : TmIs AnyB w [.int .i64 k, .int .i64 n, .string s, .slice A m c] t) (hb : nodes t ≤ 10000000) :
    Calls Try.prog 80 #[.agg #[.int .i64 k, .int .i64 n, .string s, .slice A m c]] w fun e w' => ∃ v', e = .returned v' ∧ OwnStrs w w' v' (readsR t) := by
  have HT := Lib.hid ht
  clear ht
  cases h : okT 6 t with
  | false =>
    rw [readsR_no h]
    go_enter Try.func80, Try.ntmps80
    go_wp2_with fail
    refine (spec_TermOk t k n s A m c _ (HT.out.belowA (by repeat' first|exact .refl _ _|exact Nat.le_refl _|refine .alloc ?_ ?_ _|refine .setCell ?_ ?_ _|refine .drew ?_|refine below_drewN ?_ _|assumption|(simp;done)|(simp;omega)))).mono ?_
    rintro e w1 ⟨rfl, b1⟩
    have B1 : Hid (Below w.heap.size w w1) := Lib.hid (Below.trans (by repeat' first|exact .refl _ _|exact Nat.le_refl _|refine .alloc ?_ ?_ _|refine .setCell ?_ ?_ _|refine .drew ?_|refine below_drewN ?_ _|assumption|(simp;done)|(simp;omega)) (b1.mono (by simp)))
    rw [h]
    clear b1
    go_wp2_with fail
    go_ret
    exact ⟨_, rfl, OwnStrs.empty B1.out⟩
  | true =>
    rw [readsR_yes h]
    go_enter Try.func80, Try.ntmps80
    go_wp2_with fail
    refine (spec_TermOk t k n s A m c _ (HT.out.belowA (by repeat' first|exact .refl _ _|exact Nat.le_refl _|refine .alloc ?_ ?_ _|refine .setCell ?_ ?_ _|refine .drew ?_|refine below_drewN ?_ _|assumption|(simp;done)|(simp;omega)))).mono ?_
    rintro e w1 ⟨rfl, b1⟩
    have B1 : Hid (Below w.heap.size w w1) := Lib.hid (Below.trans (by repeat' first|exact .refl _ _|exact Nat.le_refl _|refine .alloc ?_ ?_ _|refine .setCell ?_ ?_ _|refine .drew ?_|refine below_drewN ?_ _|assumption|(simp;done)|(simp;omega)) (b1.mono (by simp)))
    have X1 : Box4 w1 w.heap.size (vt k n s A m c) := Box4.below (Box4.lit rfl) b1
    obtain ⟨p0, p1, p2, p3⟩ := X1
    simp only [vt] at p0 p1 p2 p3
    have hz := cell_lt p0
    rw [h]
    clear b1
    go_wp2_with fail
    refine (spec_l03Reads t k n s A m c w _ _ [] HT.out (OwnStrs.empty B1.out) (by simpa using hb)).mono ?_
    rintro e w2 ⟨v2, rfl, own2, kp2⟩
    have O2 := Lib.hid own2
    obtain ⟨A2, c2, rfl, _⟩ := own2.slice
    clear own2 kp2
    go_wp2_with fail
    go_ret
    exact ⟨_, rfl, O2.out⟩
set_option maxHeartbeats 400000 in
theorem impl_ReadsOf (t : Tm) (k n : Int) (s : ByteArray) (A : Option Addr) (m c : Nat) (w : World) (ht : TmIs AnyB w [.int .i64 k, .int .i64 n, .string s, .slice A m c] t) (hb : nodes t ≤ 10000000) :
    Calls Try.prog 73 #[.agg #[.int .i64 k, .int .i64 n, .string s, .slice A m c]] w fun e w' => ∃ v', e = .returned v' ∧ OwnStrs w w' v' (readsR t) := by
  have HT := Lib.hid ht
  clear ht
  cases h : okT 6 t with
  | false =>
    rw [readsR_no h]
    go_enter Try.func73, Try.ntmps73
    go_wp2_with fail
    refine (impl_TermOk t k n s A m c _ (HT.out.belowA (by repeat' first|exact .refl _ _|exact Nat.le_refl _|refine .alloc ?_ ?_ _|refine .setCell ?_ ?_ _|refine .drew ?_|refine below_drewN ?_ _|assumption|(simp;done)|(simp;omega)))).mono ?_
    rintro e w1 ⟨rfl, b1⟩
    have B1 : Hid (Below w.heap.size w w1) := Lib.hid (Below.trans (by repeat' first|exact .refl _ _|exact Nat.le_refl _|refine .alloc ?_ ?_ _|refine .setCell ?_ ?_ _|refine .drew ?_|refine below_drewN ?_ _|assumption|(simp;done)|(simp;omega)) (b1.mono (by simp)))
    rw [h]
    clear b1
    go_wp2_with fail
    go_ret
    exact ⟨_, rfl, OwnStrs.nil B1.out⟩
  | true =>
    rw [readsR_yes h]
    go_enter Try.func73, Try.ntmps73
    go_wp2_with fail
    refine (impl_TermOk t k n s A m c _ (HT.out.belowA (by repeat' first|exact .refl _ _|exact Nat.le_refl _|refine .alloc ?_ ?_ _|refine .setCell ?_ ?_ _|refine .drew ?_|refine below_drewN ?_ _|assumption|(simp;done)|(simp;omega)))).mono ?_
    rintro e w1 ⟨rfl, b1⟩
    have B1 : Hid (Below w.heap.size w w1) := Lib.hid (Below.trans (by repeat' first|exact .refl _ _|exact Nat.le_refl _|refine .alloc ?_ ?_ _|refine .setCell ?_ ?_ _|refine .drew ?_|refine below_drewN ?_ _|assumption|(simp;done)|(simp;omega)) (b1.mono (by simp)))
    have X1 : Box4 w1 w.heap.size (vt k n s A m c) := Box4.below (Box4.lit rfl) b1
    obtain ⟨p0, p1, p2, p3⟩ := X1
    simp only [vt] at p0 p1 p2 p3
    rw [h]
    clear b1
    go_wp2_with fail
    refine (impl_addReads t k n s A m c w _ _ [] HT.out (OwnStrs.nil B1.out) (by simpa using hb)).mono ?_
    rintro e w2 ⟨v2, rfl, own2, kp2⟩
    have O2 := Lib.hid own2
    obtain ⟨A2, c2, rfl, _⟩ := own2.slice
    clear own2 kp2
    go_wp2_with fail
    go_ret
    exact ⟨_, rfl, O2.out⟩
def pnames (l : List Pr) : List ByteArray := l.map Pr.name
theorem pnames_len (l : List Pr) : (pnames l).length = l.length := by simp [pnames]
theorem pnames_get (l : List Pr) (i : Nat) (h : i < l.length) (h' : i < (pnames l).length) : (pnames l)[i] = l[i].name := by simp [pnames]
set_option maxHeartbeats 800000 in
theorem spec_ProcAt (p : Pg) (x : V3) (nm : ByteArray) (w : World) (hp : PgIs w x p) :
    Calls Try.prog 34 #[x.val p, .string nm] w fun e w' => e = .returned (.int .i64 (placeS (pnames p.procs) nm)) ∧ Below w.heap.size w w' := by
  obtain ⟨gs, ls, ps⟩ := p
  obtain ⟨gA, gc, lA, lc, pA, pc⟩ := x
  have RW := Lib.hid hp.p3
  have hpl := hp.p1
  have hpc := hp.p2
  simp only at RW hpl hpc
  unfold maxLen at hpc
  unfold V3.val
  simp only
  clear hp
  go_enter Try.func34, Try.ntmps34
  go_wp2_with fail
  go_loopw [5] (fun i wr => ∃ k : Nat, k ≤ ps.length ∧ i = .int .i64 k ∧ wr.cell? ⟨w.heap.size, 2, none⟩ = some (.slice pA ps.length pc) ∧ Below w.heap.size w wr ∧ Hid (∀ s ∈ (pnames ps).take k, s ≠ nm)) (fun i _ => ps.length - (intOf i).toNat)
  case atStart => exact ⟨0, Nat.zero_le _, rfl, by simp, (by repeat' first|exact .refl _ _|exact Nat.le_refl _|refine .alloc ?_ ?_ _|refine .setCell ?_ ?_ _|refine .drew ?_|refine below_drewN ?_ _|assumption|(simp;done)|(simp;omega)), Lib.hid (by simp)⟩
  case round =>
    obtain ⟨k, hk, rfl, x2, hb, HT⟩ := hrel
    have HB := Lib.hid hb
    clear hb
    have hnl := pnames_len ps
    by_cases hlt : k < ps.length
    · obtain ⟨b, off, x, rfl, d0, d1, hpr⟩ := rd_proc (RW.out.belowA HB.out) hlt
      have hlt' : k < (pnames ps).length := by omega
      have hn : (pnames ps)[k] = x.s := by rw [pnames_get ps k hlt]; exact hpr.1
      have h0k : (0 : Int) ≤ (k : Int) := by omega
      have q := str_eq x.s nm
      clear hpr d1
      by_cases e : x.s = nm
      · have P := Lib.hid (placeS_at HT.out hlt' (hn.trans e))
        rw [decide_eq_true e] at q
        clear e hn
        go_wp2_with fail
        go_ret
        exact ⟨ret_int P.out.symm, HB.out⟩
      · have T := Lib.hid (take_all_succ HT.out hlt' (fun h => e (hn.symm.trans h)))
        rw [decide_no e] at q
        clear e hn
        go_wp2_with fail
        go_roundw
        case rel => exact ⟨k + 1, by omega, by go_num, x2, HB.out, Lib.hid T.out⟩
        case measure => simp [intOf]; omega
    · have P := Lib.hid (placeS_no (ss := pnames ps) (x := nm) (by have := HT.out; rwa [List.take_of_length_le (by omega)] at this))
      go_wp2_with fail
      go_ret
      exact ⟨ret_int P.out.symm, HB.out⟩
set_option maxHeartbeats 800000 in
theorem impl_procNames (p : Pg) (x : V3) (w : World) (hp : PgIs w x p) (hb : p.procs.length ≤ 10000000) :
    Calls Try.prog 27 #[x.val p] w fun e w' => ∃ A' c', e = .returned (.slice A' (pnames p.procs).length c') ∧ OwnStrs w w' (.slice A' (pnames p.procs).length c') (pnames p.procs) := by
  obtain ⟨gs, ls, ps⟩ := p
  obtain ⟨gA, gc, lA, lc, pA, pc⟩ := x
  have RW := Lib.hid hp.p3
  have hpl := hp.p1
  have hpc := hp.p2
  simp only at RW hpl hpc hb
  unfold maxLen at hpc
  unfold V3.val
  simp only
  clear hp
  go_enter Try.func27, Try.ntmps27
  go_wp2_with fail
  go_loopw [3, 9] (fun lv i wr => ∃ k : Nat, k ≤ ps.length ∧ i = .int .i64 k ∧ ∃ A' c', lv = .slice A' (pnames (ps.take k)).length c' ∧ Hid (OwnStrs w wr (.slice A' (pnames (ps.take k)).length c') (pnames (ps.take k)))) (fun _ i _ => ps.length - (intOf i).toNat)
  case atStart => exact ⟨0, Nat.zero_le _, rfl, none, 0, rfl, Lib.hid (OwnStrs.nil (by repeat' first|exact .refl _ _|exact Nat.le_refl _|refine .alloc ?_ ?_ _|refine .setCell ?_ ?_ _|refine .drew ?_|refine below_drewN ?_ _|assumption|(simp;done)|(simp;omega)))⟩
  case round =>
    obtain ⟨k, hk, rfl, A', c', rfl, HO⟩ := hrel
    have hnl := pnames_len (ps.take k)
    by_cases hlt : k < ps.length
    · obtain ⟨b, off, x, rfl, d0, d1, hpr⟩ := rd_proc (RW.out.belowA HO.out.2) hlt
      have hlb := cell_lt d0
      have HN : Hid (pnames (ps.take (k + 1)) = pnames (ps.take k) ++ [x.s]) := Lib.hid (by
        have e : ps.take (k + 1) = ps.take k ++ [ps[k]] := List.take_succ_eq_append_getElem hlt
        rw [e, ← hpr.1]; unfold pnames; rw [List.map_append]; rfl)
      have h0k : (0 : Int) ≤ (k : Int) := by omega
      have hkl : (pnames (ps.take k)).length ≤ 10000000 := by rw [hnl, List.length_take]; omega
      have OA := Lib.hid (HO.out.alloc (.cells #[.string x.s, .slice x.A x.m x.c] 31))
      clear hpr hnl
      go_wp2_with (at_builtin; refine wpList_app_keepG (wr.heap.size + 1) (by simp) rfl _ _ _ rfl strT OA.out _ 1 rfl rfl rfl (by simp [Value.oneCell']) (by simp only [maxLen]; omega) (by omega) ?_; intro v2 w2 own2 kp2; have O2 : Hid (OwnStrs w w2 v2 (pnames (ps.take (k + 1)))) := Lib.hid (by rw [HN.out]; unfold OwnStrs; rw [List.length_append, ← map_snoc]; exact own2); obtain ⟨A2, c2, rfl, _⟩ := O2.out.slice; clear own2 kp2)
      go_roundw
      case rel => exact ⟨k + 1, by omega, by go_num, A2, c2, rfl, O2⟩
      case measure => simp [intOf]; omega
    · go_wp2_with fail
      go_ret
      have := HO.out
      rw [List.take_of_length_le (by omega)] at this ⊢
      exact ⟨_, _, rfl, this⟩
end Go.Proofs.Ytadcebdhgocmhaa
