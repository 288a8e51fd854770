/- Several texts in one: Counts, TwiceS. -/
import Derived.Test.YtefcdpkficojgaaDoorKa29
import Derived.Test.YtefcdpkficojgaaDoorKa23
import Derived.Deep.QuietTactic
import Derived.BigQuiet
import Derived.OneCell
import Derived.Test.YtefcdpkficojgaaDoorKa26
namespace Go.Proofs.YtefcdpkficojgaaDoor
open Go.RowKit
set_option linter.unusedVariables false


mutual
theorem snodes_tot : (g : St) → snodes g ≤ 1 + totG g
  | .mk k s t b e => by rw [snodes, totG]; have := snodess_tot b; have := snodess_tot e; omega
theorem snodess_tot : (l : List St) → snodess l ≤ totGs l
  | [] => by simp [snodess, totGs]
  | g :: r => by rw [snodess, totGs]; have := snodes_tot g; have := snodess_tot r; omega
end
theorem snodess_take (l : List St) (k : Nat) (h : k < l.length) : snodess (l.take (k + 1)) = snodess (l.take k) + snodes l[k] := by
  have e : l.take (k + 1) = l.take k ++ [l[k]] := List.take_succ_eq_append_getElem h
  rw [e, snodess_append]; simp [snodess]
theorem snodess_take_le (l : List St) (k : Nat) : snodess (l.take k) ≤ snodess l := by
  have e : snodess l = snodess (l.take k) + snodess (l.drop k) := by rw [← snodess_append, List.take_append_drop]
  omega
theorem quiet_qt {P : Program} {f : FuncId} {args : Array Value} {w : World} {n : Nat} {v : Value} (h : Calls P f args (w.drewN n) fun e w' => e = .returned v ∧ Qt (w.drewN n) w') : Calls P f args (w.drewN n) fun e w'' => e = .returned v ∧ ∃ m, w'' = w.drewN m :=
  Calls.quiet_of (h.mono fun _ _ ⟨he, m, hm⟩ => ⟨he, m, hm⟩)
theorem StRow.qt {w w' : World} {A : Option Addr} {l : List St} (h : StRow AnyB w A l) (q : Qt w w') : StRow AnyB w' A l := h.belowA q.below
theorem StRow.drewN {w : World} {A : Option Addr} {l : List St} (h : StRow AnyB w A l) (n : Nat) : StRow AnyB (w.drewN n) A l := h.qt (Qt.of_drewN _ _)
abbrev CnC (l : List St) : Prop := ∀ (A : Option Addr) (c : Nat) (w : World), StRow AnyB w A l → l.length ≤ c → c ≤ maxLen → Calls Tryd.prog 28 #[.slice A l.length c] w fun e w' => e = .returned (.int .i64 (snodess l : Nat)) ∧ Qt w w'
set_option maxHeartbeats 800000 in
theorem spec_CountIn_at (l : List St) (hb : snodess l ≤ 1048576) (ih : ∀ g ∈ l, ∀ t k s body els, g = .mk k s t body els → CnC body ∧ CnC els) : CnC l := by
  intro A c w row hl hc
  unfold maxLen at hc
  have IH := Lib.hid ih
  have RW := Lib.hid row
  clear ih row
  go_enter Tryd.func28, Tryd.ntmps28
  go_wp2_with fail
  go_loopw [3, 4] (fun n i wr => ∃ j : Nat, j ≤ l.length ∧ i = .int .i64 j ∧ n = .int .i64 (snodess (l.take j) : Nat) ∧ Hid (Qt w wr)) (fun _ i _ => l.length - (intOf i).toNat)
  case atStart => exact ⟨0, Nat.zero_le _, rfl, rfl, Lib.hid (Qt.refl _)⟩
  case round =>
    obtain ⟨j, hj, rfl, rfl, HQ⟩ := hrel
    have hle := snodess_take_le l j
    by_cases hlt : j < l.length
    · obtain ⟨b, off, x, rfl, _, ⟨d0, d1, d2, d3, d4, d5, d6, d7⟩, hg⟩ := rd_stmt (RW.out.qt HQ.out) hlt
      obtain ⟨t, body, els, heq, _, _, _, hb1, hb2, hb3, rb, he1, he2, he3, re⟩ := hg.inv
      have VB := Lib.hid (IH.out l[j] (List.getElem_mem hlt) t _ _ body els heq).1
      have VE := Lib.hid (IH.out l[j] (List.getElem_mem hlt) t _ _ body els heq).2
      have hsg : snodes l[j] = 1 + snodess body + snodess els := by rw [heq, snodes]
      have hst := snodess_take l j hlt
      have hle2 := snodess_take_le l (j + 1)
      have HS : Hid (snodess (l.take (j + 1)) = snodess (l.take j) + 1 + snodess body + snodess els) := Lib.hid (by omega)
      have hs1 : snodess (l.take j) + 1 + snodess body + snodess els ≤ 1048576 := by omega
      have RB := Lib.hid rb
      have RE := Lib.hid re
      obtain ⟨xk, xs, tk, tn, ts, tA, tm, tc, bA, bm, bc, eA, em, ec⟩ := x
      simp only at hb1 he1 hb2 hb3 he2 he3 d6 d7 RB RE
      subst hb1 he1
      have h0k : (0 : Int) ≤ (j : Int) := by omega
      have h1k : (j : Int) < (l.length : Int) := by omega
      clear hst hsg heq hg rb re d0 d1 d2 d3 d4 d5 hle2
      have w1 : IntKind.i64.wrap ((snodess (l.take j) : Int) + 1) = (snodess (l.take j) : Int) + 1 := IntWalk.i64_in _ (by omega)
      have w2 : IntKind.i64.wrap ((snodess (l.take j) : Int) + 1 + (snodess body : Int)) = (snodess (l.take j) : Int) + 1 + (snodess body : Int) := IntWalk.i64_in _ (by omega)
      have w3 : IntKind.i64.wrap ((snodess (l.take j) : Int) + 1 + (snodess body : Int) + (snodess els : Int)) = (snodess (l.take j) : Int) + 1 + (snodess body : Int) + (snodess els : Int) := IntWalk.i64_in _ (by omega)
      go_wp2_with fail
      go_quiet ((first | (go_at_call 28; with_reducible exact quiet_qt (VB.out bA bc _ (RB.out.drewN _) hb2 hb3)) | (go_at_call 28; with_reducible exact quiet_qt (VE.out eA ec _ (RE.out.drewN _) he2 he3))))
      clear w1 w2 w3
      go_wp2_with fail
      go_roundw
      case rel => exact ⟨j + 1, by omega, by go_num, by rw [HS.out]; go_num, Lib.hid (HQ.out.trans (Qt.of_drewN _ _))⟩
      case measure => simp [intOf]; omega
    · go_wp2_with fail
      go_ret
      exact ⟨ret_int (by rw [List.take_of_length_le (by omega)]), HQ.out⟩
theorem spec_CountIn (l : List St) (hb : snodess l ≤ 1048576) : CnC l := by
  induction hN : snodess l using Nat.strongRecOn generalizing l with
  | ind N ih =>
    refine spec_CountIn_at l hb fun g hg t k s body els e => ?_
    have := snodess_le hg
    have h2 : snodes g = 1 + snodess body + snodess els := by rw [e, snodes]
    exact ⟨ih _ (by omega) body (by omega) rfl, ih _ (by omega) els (by omega) rfl⟩
/-- the closure that counts: its one captured variable lies in block g -/
def countU (g : Nat) : Uses Nat where
  k := 76
  caps := #[.pointer (some ⟨g, 0, none⟩)]
  f := fun n _ => (n + 1, true)
  I := fun n w => w.heap[g]? = some (.cells #[.int .i64 (n : Int)] 3 (0, 0))
  K := fun _ _ i => i ≠ g
  Bd := fun n m => n + m ≤ 1048576
mutual
theorem count_visT (n : Nat) : (g : St) → visT (fun (n : Nat) (_ : St) => (n + 1, true)) n g = (n + snodes g, true)
  | .mk k s t b e => by
    rw [visT]
    simp only
    rw [count_visTs (n + 1) b]
    simp only
    rw [count_visTs _ e, snodes]
    congr 1; omega
theorem count_visTs (n : Nat) : (l : List St) → visTs (fun (n : Nat) (_ : St) => (n + 1, true)) n l = (n + snodess l, true)
  | [] => by rw [visTs, snodess, Nat.add_zero]
  | g :: r => by
    rw [visTs, count_visT n g]
    simp only
    rw [count_visTs _ r, snodess]
    congr 1; omega
end
set_option maxHeartbeats 800000 in
theorem countU_ok (g : Nat) : (countU g).Ok where
  step := by
    intro n m x s w hbd hI hs
    have hI' : w.heap[g]? = some (.cells #[.int .i64 (n : Int)] 3 (0, 0)) := hI
    have hbd' : n + (m + 1) ≤ 1048576 := hbd
    have hg := lt_of_block hI'
    have a1 : (w.alloc (.cells x.cells.toArray 104)).heap[g]? = some (.cells #[.int .i64 (n : Int)] 3 (0, 0)) := (heap_alloc_lt hg).trans hI'
    have c1 := cell_of_one a1
    have c2 := free_of_one a1
    have A1 := Lib.hid hI'
    simp only [V8.cells] at c1 c2
    clear hI hI' hs hbd a1
    show Calls Tryd.prog 76 #[.agg #[.int .i64 x.k, .string x.s, .int .i64 x.tk, .int .i64 x.tn, .string x.ts, .slice x.tA x.tm x.tc, .slice x.bA x.bm x.bc, .slice x.eA x.em x.ec], .pointer (some ⟨g, 0, none⟩)] w _
    go_enter Tryd.func76, Tryd.ntmps76
    go_wp2_with fail
    go_ret
    refine ⟨rfl, ?_, ?_, fun i _ h => h, ?_⟩
    · exact (heap_alloc_lt (by simpa using hg)).trans (one_setCell A1.out)
    · exact (Keep.setCell (S := fun i => i ≠ g) (p := ⟨g, 0, none⟩) (Keep.refl _ _) (by simp) _).alloc _
    · show n + 1 + m ≤ 1048576; omega
  enter := fun args w => by kernel_rfl
  new := fun st w o h => ⟨(heap_alloc_lt (lt_of_block h)).trans h, by have := lt_of_block h; show w.heap.size ≠ g; omega, fun i _ h => h⟩
  less := fun st m n h k => by have h' : st + n ≤ 1048576 := k; show st + m ≤ 1048576; omega
set_option maxHeartbeats 800000 in
theorem impl_CountIn (l : List St) (A : Option Addr) (c : Nat) (w : World) (row : StRow AnyB w A l) (hl : l.length ≤ c) (hc : c ≤ maxLen) (hb : snodess l ≤ 1048576) :
    Calls Tryd.prog 24 #[.slice A l.length c] w fun e w' => e = .returned (.int .i64 (snodess l : Nat)) ∧ Below w.heap.size w w' := by
  have RW := Lib.hid row
  clear row
  go_enter Tryd.func24, Tryd.ntmps24
  go_wp2_with fail
  have a1 : (w.alloc (.cells #[.int .i64 0] 3)).heap[w.heap.size]? = some (.cells #[.int .i64 ((0 : Nat) : Int)] 3 (0, 0)) := heap_alloc_new _ _
  have r1 : StRow (fun i => i ≠ w.heap.size) (w.alloc (.cells #[.int .i64 0] 3)) A l := RW.out.keep (fun p hp _ => World.cell?_alloc_lt _ _ _ hp) (fun b hb _ => by omega)
  refine (impl_visitStmts (countU w.heap.size) (countU_ok _) l 0 0 A c _ (by show 0 + (0 + snodess l) ≤ 1048576; omega) a1 r1 hl hc).mono ?_
  rintro e w1 ⟨rfl, i1, k1, m1, b1⟩
  have ev : visTs (countU w.heap.size).f 0 l = (0 + snodess l, true) := count_visTs 0 l
  rw [ev] at i1 ⊢
  have i1' : w1.heap[w.heap.size]? = some (.cells #[.int .i64 ((0 + snodess l : Nat) : Int)] 3 (0, 0)) := i1
  rw [Nat.zero_add] at i1'
  have c1 := cell_of_one i1'
  have B1 : Hid (Below w.heap.size w w1) := Lib.hid (Below.trans (Below.alloc (Below.refl _ _) (Nat.le_refl _) _) (k1.below (by simp) (fun b hb => by show b ≠ w.heap.size; omega)))
  clear i1 k1 m1 b1 ev i1' a1 r1
  go_wp2_with fail
  go_ret
  exact ⟨rfl, B1.out⟩

set_option maxHeartbeats 400000 in
theorem spec_l04Has (v : Value) (ss : List ByteArray) (x : ByteArray) (w : World) (h : IsStrs w v ss) :
    Calls Tryd.prog 149 #[v, .string x] w fun e w' => e = .returned (.bool (hasS ss x)) ∧ w = w' := by
  obtain ⟨A, c, rfl, h2, h3, rd⟩ := h
  unfold maxLen at h3
  have RD := Lib.hid rd
  clear rd
  go_enter Tryd.func149, Tryd.ntmps149
  go_wp2_with fail
  go_loop [5] (fun i => ∃ k : Nat, k ≤ ss.length ∧ i = .int .i64 k ∧ Hid (∀ s ∈ ss.take k, s ≠ x)) (fun i => ss.length - (intOf i).toNat)
  case atStart => exact ⟨0, Nat.zero_le _, rfl, Lib.hid (by simp)⟩
  case round =>
    obtain ⟨k, hk, rfl, HT⟩ := hrel
    by_cases hlt : k < ss.length
    · obtain ⟨b, off, rfl, hcell⟩ := rd_str RD.out hlt
      have h0k : (0 : Int) ≤ (k : Int) := by omega
      have q := str_eq ss[k] x
      by_cases e : ss[k] = x
      · have HE := Lib.hid (hasS_at hlt e)
        rw [decide_eq_true e] at q
        clear e
        go_wp2_with fail
        go_ret
        exact ⟨ret_bool HE.out.symm, rfl⟩
      · have HE := Lib.hid e
        rw [decide_no e] at q
        clear e
        go_wp2_with fail
        go_round
        case rel => exact ⟨k + 1, by omega, by go_num, Lib.hid (take_all_succ HT.out hlt HE.out)⟩
        case measure => simp [intOf]; omega
    · go_wp2_with fail
      go_ret
      refine ⟨ret_bool (hasS_no ?_).symm, rfl⟩
      have := HT.out
      rwa [List.take_of_length_le (by omega)] at this
end Go.Proofs.YtefcdpkficojgaaDoor
