/- The program's CompsOf, and the law's own comparison of lists. -/
import Derived.Test.YtfnjllaaadhbbaaCompsImpl
import Derived.Test.YtfnjllaaadhbbaaInts
namespace Go.Proofs.Ytfnjllaaadhbbaa
open Go.RowKit
set_option linter.unusedVariables false

set_option maxHeartbeats 1600000 in
theorem impl_CompsOf (n : Nat) (v : Value) (ars : List Arc2) (w : World) (h : IsArcs w v ars) (hn : n ≤ 60) (hok : ars.all (arcOk (n : Int)) = true) (hal : ars.length ≤ 2000) :
    Calls Try.prog 8 #[.int .i64 (n : Int), v] w fun e w' => ∃ v', e = .returned v' ∧ Below w.heap.size w w' ∧ IsIntss w' v' ((compsL n (warsh (arcR ars) n) (n + 1) (fun _ => false)).map numI) := by
  have HI := Lib.hid h
  have OK := Lib.hid hok
  have GB : Hid (graphB (n : Int) ars = true) := Lib.hid (graph_yes (inB_yes (by omega) (by omega)) hal hok)
  clear h hok
  go_enter Try.func8, Try.ntmps8
  go_wp2_with fail
  refine (impl_GraphOk n v ars _ HI.out).mono ?_
  rintro e w1 ⟨rfl, b1⟩
  have B1 := Lib.hid b1
  rw [GB.out]
  clear b1
  go_wp2_with fail
  refine (impl_compSets n v ars _ (HI.out.below B1.out) hn OK.out hal).mono ?_
  rintro e w2 ⟨v2, rfl, o2⟩
  have O2 := Lib.hid o2
  clear o2
  go_wp2_with fail
  go_ret
  exact ⟨_, rfl, below_then B1.out O2.out.own, O2.out.intss⟩
set_option maxHeartbeats 400000 in
theorem laws_sameInts (v u : Value) (ss : List Int) (w : World) (h : IsInts w v ss) (h' : IsInts w u ss) :
    Calls Try.prog 25 #[v, u] w fun e w' => e = .returned (.bool true) ∧ Qt w w' := by
  obtain ⟨A, c, rfl, h2, h3, rd⟩ := h
  obtain ⟨A', c', rfl, h2', h3', rd'⟩ := h'
  unfold maxLen at h3 h3'
  have RD := Lib.hid rd
  have RD' := Lib.hid rd'
  clear rd rd'
  have g1 : ((ss.length : Int) != (ss.length : Int)) = false := by simp
  go_enter Try.func25, Try.ntmps25
  go_wp2_with fail
  go_loopw [5] (fun i wr => ∃ (k m : Nat), k ≤ ss.length ∧ i = .int .i64 k ∧ wr = w.drewN m) (fun i _ => ss.length - (intOf i).toNat)
  case atStart => exact ⟨0, 0, Nat.zero_le _, rfl, rfl⟩
  case round =>
    obtain ⟨k, m, hk, rfl, rfl⟩ := hrel
    by_cases hlt : k < ss.length
    · obtain ⟨b, off, rfl, hcell⟩ := rd_int RD.out hlt
      obtain ⟨b', off', rfl, hcell'⟩ := rd_int RD'.out hlt
      have h0k : (0 : Int) ≤ (k : Int) := by omega
      have h1k : (k : Int) < (ss.length : Int) := by omega
      have q : (ss[k] != ss[k]) = false := by simp
      go_wp2_with fail
      go_quiet (fail)
      go_wp2_with fail
      go_roundw
      case rel => exact ⟨k + 1, _, by omega, by go_num, rfl⟩
      case measure => simp [intOf]; omega
    · go_wp2_with fail
      go_ret
      exact ⟨rfl, Qt.of_drewN _ _⟩
theorem quiet_qs {P : Program} {f : FuncId} {args : Array Value} {w : World} {n : Nat} {v : Value} (h : Calls P f args (w.drewN n) fun e w' => e = .returned v ∧ Qt (w.drewN n) w') : Calls P f args (w.drewN n) fun e w'' => e = .returned v ∧ ∃ m, w'' = w.drewN m :=
  Calls.quiet_of (h.mono fun _ _ ⟨he, m, hm⟩ => ⟨he, m, hm⟩)
set_option maxHeartbeats 400000 in
theorem laws_sameLists (v u : Value) (zss : List (List Int)) (w : World) (h : IsIntss w v zss) (h' : IsIntss w u zss) :
    Calls Try.prog 9 #[v, u] w fun e w' => e = .returned (.bool true) ∧ Qt w w' := by
  obtain ⟨A, c, cs, rfl, h2, h3, rd, hx⟩ := h
  obtain ⟨A', c', cs', rfl, h2', h3', rd', hx'⟩ := h'
  unfold maxLen at h3 h3'
  have RD := Lib.hid rd
  have RD' := Lib.hid rd'
  have HX := Lib.hid hx
  have HX' := Lib.hid hx'
  clear rd rd' hx hx'
  have g1 : ((zss.length : Int) != (zss.length : Int)) = false := by simp
  go_enter Try.func9, Try.ntmps9
  go_wp2_with fail
  go_loopw [5] (fun i wr => ∃ (k : Nat), k ≤ zss.length ∧ i = .int .i64 k ∧ Hid (Qt w wr)) (fun i _ => zss.length - (intOf i).toNat)
  case atStart => exact ⟨0, Nat.zero_le _, rfl, Lib.hid (Qt.refl _)⟩
  case round =>
    obtain ⟨k, hk, rfl, HQ⟩ := hrel
    by_cases hlt : k < zss.length
    · obtain ⟨b, off, B, d, rfl, hcell, hd, hd2, hin⟩ := rd_ints (RD.out.below HQ.out.below) (fun k hk => (by obtain ⟨u, h1, h2⟩ := HX.out k hk; exact ⟨u, h1, h2.below HQ.out.below⟩)) hlt
      obtain ⟨b', off', B', d', rfl, hcell', hd', hd2', hin'⟩ := rd_ints (RD'.out.below HQ.out.below) (fun k hk => (by obtain ⟨u, h1, h2⟩ := HX'.out k hk; exact ⟨u, h1, h2.below HQ.out.below⟩)) hlt
      have I1 := Lib.hid hin
      have I2 := Lib.hid hin'
      have h0k : (0 : Int) ≤ (k : Int) := by omega
      have h1k : (k : Int) < (zss.length : Int) := by omega
      have Q := Lib.hid (fun n => laws_sameInts (.slice B zss[k].length d) (.slice B' zss[k].length d') zss[k] (wr.drewN n) (I1.out.below (Qt.of_drewN _ _).below) (I2.out.below (Qt.of_drewN _ _).below))
      clear hin hin'
      go_wp2_with fail
      go_quiet ((go_at_call 25; exact quiet_qs (Q.out _)))
      go_wp2_with fail
      go_roundw
      case rel => exact ⟨k + 1, by omega, by go_num, Lib.hid (HQ.out.trans (Qt.of_drewN _ _))⟩
      case measure => simp [intOf]; omega
    · go_wp2_with fail
      go_ret
      exact ⟨rfl, HQ.out⟩
end Go.Proofs.Ytfnjllaaadhbbaa
