/- Several texts in one: TermHeld, RtLaw, StmtHeld, RtSLaw. -/
import Derived.Test.YtefcdpkficojgaaDoorKc37
import Derived.Test.YtefcdpkficojgaaDoorKc25
import Derived.Test.YtefcdpkficojgaaDoorKc46
import Derived.Test.YtefcdpkficojgaaDoorKc47
import Derived.Test.YtefcdpkficojgaaDoorKc38
import Derived.Test.YtefcdpkficojgaaDoorKc51
namespace Go.Proofs.YtefcdpkficojgaaDoor
open Go.RowKit
set_option linter.unusedVariables false


theorem mkTs_get (k : Nat) (l : List Tm) {i : Nat} (h : i < l.length) : ∀ (h' : i < (mkTs k l).length), (mkTs k l)[i] = mkT (k + 3 * nodess (l.take i)) l[i] := by
  induction l generalizing k i with
  | nil => cases h
  | cons t r ih =>
    intro h'
    cases i with
    | zero => simp [mkTs, nodess]
    | succ i =>
      simp only [mkTs, List.getElem_cons_succ, List.take_succ_cons, nodess]
      rw [ih (k + 3 * nodes t) (by simpa using h)]
      congr 1; omega
abbrev HdC (ts : List Tm) : Prop := ∀ (k : Nat) (A : Option Addr) (c : Nat) (w : World), TmRow AnyB w A (mkTs k ts) → ts.length ≤ c → c ≤ maxLen → 0 < k → k + 3 * nodess ts ≤ 100000000 →
  Calls Tryd.prog 62 #[.slice A ts.length c, .int .i64 (k : Int)] w fun e w' => e = .returned (.int .i64 ((k + 3 * nodess ts : Nat) : Int)) ∧ Below w.heap.size w w'
set_option maxHeartbeats 1000000 in
set_option maxRecDepth 100000 in
theorem laws_heldTermS_at (ts : List Tm) (ih : ∀ t ∈ ts, ∀ k n s kids, t = .mk k n s kids → HdC kids) : HdC ts := by
  intro k A c w row hl hc h0 h1
  unfold maxLen at hc
  have IH := Lib.hid ih
  have RW := Lib.hid row
  clear ih row
  go_enter Tryd.func62, Tryd.ntmps62
  go_wp2_with fail
  go_loopw [1, 5] (fun kk i wr => ∃ j : Nat, j ≤ ts.length ∧ i = .int .i64 j ∧ kk = .int .i64 ((k + 3 * nodess (ts.take j) : Nat) : Int) ∧ Below w.heap.size w wr) (fun _ i _ => ts.length - (intOf i).toNat)
  case atStart => exact ⟨0, Nat.zero_le _, rfl, by simp [nodess], Below.refl _ _⟩
  case round =>
    obtain ⟨j, hj, rfl, rfl, hb⟩ := hrel
    have HB := Lib.hid hb
    clear hb
    by_cases hlt : j < ts.length
    · have hjm : j < (mkTs k ts).length := by rw [mkTs_length]; exact hlt
      obtain ⟨b, off, kd, nn, s, A', m, c', rfl, _, d0, d1, d2, d3, hterm⟩ := rd_term (RW.out.belowA HB.out) hjm
      rw [mkTs_get k ts hlt hjm] at hterm
      obtain ⟨kids', heq', hm, hl', hc', _, _, hs', hrow'⟩ := hterm.inv
      obtain ⟨a0, b0, s0, kids, heq⟩ : ∃ a b s kids, ts[j] = Tm.mk a b s kids := by
        cases ts[j]
        exact ⟨_, _, _, _, rfl⟩
      have hnt := nodess_take ts j hlt
      have hnl := nodess_take_le ts (j + 1)
      have hnk : nodes ts[j] = 1 + nodess kids := by rw [heq, nodes]
      have VK := Lib.hid (IH.out ts[j] (List.getElem_mem hlt) _ _ _ kids heq)
      have HN : Hid (nodess (ts.take (j + 1)) = nodess (ts.take j) + (1 + nodess kids)) := Lib.hid (by omega)
      have hbd : k + 3 * nodess (ts.take j) + 3 + 3 * nodess kids ≤ 100000000 := by omega
      rw [heq, mkT_mk] at heq'
      generalize hK : k + 3 * nodess (ts.take j) = K at *
      injection heq' with e0 e1 e2 e3
      subst e0 e1 e2 e3
      rw [mkTs_length] at hm hl'
      subst hm
      have HK := Lib.hid hK
      have HR' := Lib.hid hrow'
      have hK0 : 0 < K := by omega
      have h0k : (0 : Int) ≤ (j : Int) := by omega
      have h1k : (j : Int) < (ts.length : Int) := by omega
      have h2k : (j : Int) < ((mkTs k ts).length : Int) := by omega
      rw [show ((K + 1 : Nat) : Int) = (K : Int) + 1 from by omega] at d1
      have q0 : (((K : Nat) : Int) != ((K : Nat) : Int)) = false := by simp
      have q1 : ((K : Int) + 1 != (K : Int) + 1) = false := by simp
      have EC : Hid ((K : Int) + 1 + 1 = ((K + 2 : Nat) : Int)) := Lib.hid (by omega)
      have he : ((markT (K + 2)).toList == (markT (K + 2)).toList) = true := by simp
      have hneg : ¬ (((K + 3 + 3 * nodess kids : Nat) : Int) < 0) := by omega
      clear hK hterm hnt hnl hnk heq hjm hs' hrow'
      go_wp2_with fail
      go_region_held3 (fun w' => w'.cell? ⟨b, off + j * 4 + 2, none⟩ = some (.string (markT (K + 2))) ∧ w'.cell? ⟨b, off + j * 4 + 3, none⟩ = some (.slice A' kids.length c'))
        (first | exact ⟨d2, d3⟩ | exact ⟨cell_keep b1 d2, cell_keep b1 d3⟩ | go_keep)
        (first | (go_at_call 84; (try rw [EC.out]); refine (laws_markText (K + 2) _ (by omega) (by omega)).mono ?_; rintro e w1 ⟨rfl, b1⟩) | fail)
      all_goals
        have e3 := cell_keep b1 d3
        have B1 := Lib.hid b1
        go_wp2_with fail
        refine (VK.out (K + 3) A' c' _ ((HR'.out.belowA (Below.refl _ _).drew).belowA B1.out) hl' hc' (by omega) (by omega)).mono ?_
        rintro e w2 ⟨rfl, b2⟩
        have B2 := Lib.hid (below_then (below_then HB.out.drew B1.out) b2)
        clear b2
        go_wp2_with fail
        go_roundw
        case rel => exact ⟨j + 1, by omega, by go_num, by rw [HN.out]; exact congrArg (Value.int .i64) (by have := HK.out; omega), B2.out⟩
        case measure => simp [intOf]; omega
    · go_wp2_with fail
      go_ret
      exact ⟨ret_int (by rw [List.take_of_length_le (by omega)]), HB.out⟩
theorem laws_heldTermS (ts : List Tm) : HdC ts := by
  induction hN : nodess ts using Nat.strongRecOn generalizing ts with
  | ind N ih =>
    refine laws_heldTermS_at ts fun t ht k n s kids e => ?_
    have := nodess_le ht
    have h2 : nodes t = 1 + nodess kids := by rw [e, nodes]
    exact ih _ (by omega) kids rfl

/-- the two cells of a fault -/
def Box2 (w : World) (g : Nat) (a c : Int) : Prop := w.cell? ⟨g, 0, none⟩ = some (.int .i64 a) ∧ w.cell? ⟨g, 1, none⟩ = some (.int .i64 c)
theorem Box2.below {w w' : World} {g : Nat} {a c : Int} (h : Box2 w g a c) (hb : Below w.heap.size w w') : Box2 w' g a c := ⟨cell_keep hb h.1, cell_keep hb h.2⟩
theorem Box2.keepS {w w' : World} {g : Nat} {a c : Int} {S : Nat → Prop} (h : Box2 w g a c) (hk : Keep S w w') (hS : S g) : Box2 w' g a c := ⟨hk.cellEq hS h.1, hk.cellEq hS h.2⟩

theorem mkGs_get (k : Nat) (l : List St) {i : Nat} (h : i < l.length) : ∀ (h' : i < (mkGs k l).length), (mkGs k l)[i] = mkG (k + smarkss (l.take i)) l[i] := by
  induction l generalizing k i with
  | nil => cases h
  | cons t r ih =>
    intro h'
    cases i with
    | zero => simp [mkGs, smarkss]
    | succ i =>
      simp only [mkGs, List.getElem_cons_succ, List.take_succ_cons, smarkss]
      rw [ih (k + smarks t) (by simpa using h)]
      congr 1; omega
abbrev HgC (l : List St) : Prop := ∀ (k : Nat) (A : Option Addr) (c : Nat) (w : World), StRow AnyB w A (mkGs k l) → l.length ≤ c → c ≤ maxLen → 0 < k → k + smarkss l ≤ 100000000 →
  Calls Tryd.prog 34 #[.slice A l.length c, .int .i64 (k : Int)] w fun e w' => e = .returned (.int .i64 ((k + smarkss l : Nat) : Int)) ∧ Below w.heap.size w w'
set_option maxHeartbeats 2000000 in
set_option maxRecDepth 100000 in
theorem laws_heldStmtS_at (l : List St) (ih : ∀ g ∈ l, ∀ k s t body els, g = .mk k s t body els → HgC body ∧ HgC els) : HgC l := by
  intro k A c w row hl hc h0 h1
  unfold maxLen at hc
  have IH := Lib.hid ih
  have RW := Lib.hid row
  clear ih row
  go_enter Tryd.func34, Tryd.ntmps34
  go_wp2_with fail
  go_loopw [1, 5] (fun kk i wr => ∃ j : Nat, j ≤ l.length ∧ i = .int .i64 j ∧ kk = .int .i64 ((k + smarkss (l.take j) : Nat) : Int) ∧ Below w.heap.size w wr) (fun _ i _ => l.length - (intOf i).toNat)
  case atStart => exact ⟨0, Nat.zero_le _, rfl, by simp [smarkss], Below.refl _ _⟩
  case round =>
    obtain ⟨j, hj, rfl, rfl, hb⟩ := hrel
    have HB := Lib.hid hb
    clear hb
    by_cases hlt : j < l.length
    · have hjm : j < (mkGs k l).length := by rw [mkGs_length]; exact hlt
      obtain ⟨b, off, x, rfl, _, ⟨d0, d1, d2, d3, d4, d5, d6, d7⟩, hg⟩ := rd_stmt (RW.out.belowA HB.out) hjm
      rw [mkGs_get k l hlt hjm] at hg
      obtain ⟨xk, xs, tk, tn, ts, tA, tm, tc, bA, bm, bc, eA, em, ec⟩ := x
      obtain ⟨t', body', els', heq', _, _, hT, hb1, hb2, hb3, rb, he1, he2, he3, re⟩ := hg.inv
      simp only at d0 d1 d2 d3 d4 d5 d6 d7 heq' hb1 hb2 hb3 rb he1 he2 he3 re
      simp only [V8.term] at hT
      obtain ⟨kids', hteq, htm, hl', hc', _, _, _, hrow'⟩ := hT.inv
      obtain ⟨a0, s0, t, body, els, heq⟩ : ∃ a s t b e, l[j] = St.mk a s t b e := by
        cases l[j]
        exact ⟨_, _, _, _, _, rfl⟩
      have hnt := smarkss_take l j hlt
      have hnl := smarkss_take_le l (j + 1)
      have hnk : smarks l[j] = 5 + 3 * nodess t.kids + smarkss body + smarkss els := by rw [heq, smarks]
      have VB := Lib.hid (IH.out l[j] (List.getElem_mem hlt) _ _ _ body els heq).1
      have VE := Lib.hid (IH.out l[j] (List.getElem_mem hlt) _ _ _ body els heq).2
      have HN : Hid (smarkss (l.take (j + 1)) = smarkss (l.take j) + (5 + 3 * nodess t.kids + smarkss body + smarkss els)) := Lib.hid (by omega)
      have hbd : k + smarkss (l.take j) + 5 + 3 * nodess t.kids + smarkss body + smarkss els ≤ 100000000 := by omega
      rw [heq, mkG_mk] at heq'
      generalize hK : k + smarkss (l.take j) = K at *
      generalize t.kids = kids at *
      injection heq' with e0 e1 e2 e3 e4
      subst e2
      injection hteq with f0 f1 f2 f3
      subst e0 e1 e3 e4 f0 f1 f2 f3
      rw [mkTs_length] at htm hl'
      rw [mkGs_length] at hb1 hb2 he1 he2
      subst htm hb1 he1
      have HK := Lib.hid hK
      have HR' := Lib.hid hrow'
      have RB := Lib.hid rb
      have RE := Lib.hid re
      have hK0 : 0 < K := by omega
      have h0k : (0 : Int) ≤ (j : Int) := by omega
      have h1k : (j : Int) < (l.length : Int) := by omega
      rw [show ((K + 2 : Nat) : Int) = (K : Int) + 1 + 1 from by omega] at d2
      rw [show ((K + 3 : Nat) : Int) = (K : Int) + 1 + 1 + 1 from by omega] at d3
      have q0 : (((K : Nat) : Int) != ((K : Nat) : Int)) = false := by simp
      have q2 : ((K : Int) + 1 + 1 != (K : Int) + 1 + 1) = false := by simp
      have q3 : ((K : Int) + 1 + 1 + 1 != (K : Int) + 1 + 1 + 1) = false := by simp
      have EC1 : Hid ((K : Int) + 1 = ((K + 1 : Nat) : Int)) := Lib.hid (by omega)
      have EC4 : Hid ((K : Int) + 1 + 1 + 1 + 1 = ((K + 4 : Nat) : Int)) := Lib.hid (by omega)
      have he1 : ((markT (K + 1)).toList == (markT (K + 1)).toList) = true := by simp
      have he4 : ((markT (K + 4)).toList == (markT (K + 4)).toList) = true := by simp
      have hneg5 : ¬ (((K + 5 + 3 * nodess kids : Nat) : Int) < 0) := by omega
      clear hK hg hnt hnl hnk heq hjm hrow' hT rb re
      go_wp2_with fail
      go_region_held3 (fun w' => w'.cell? ⟨b, off + j * 8 + 1, none⟩ = some (.string (markT (K + 1))))
        (first | exact d1 | exact cell_keep b1 d1 | go_keep)
        (first | (go_at_call 84; (try rw [EC1.out]); refine (laws_markText (K + 1) _ (by omega) (by omega)).mono ?_; rintro e w1 ⟨rfl, b1⟩) | fail)
      all_goals
        have g2 := cell_keep b1 d2
        have g3 := cell_keep b1 d3
        have g4 := cell_keep b1 d4
        have g5 := cell_keep b1 d5
        have g6 := cell_keep b1 d6
        have g7 := cell_keep b1 d7
        have B1 := Lib.hid (below_then (Below.refl wr.heap.size wr).drew b1)
        clear b1 d0 d1 d2 d3 d4 d5 d6 d7
        go_wp2_with fail
        go_region_held3 (fun w' => w'.cell? ⟨b, off + j * 8 + 4, none⟩ = some (.string (markT (K + 4))))
          (first | exact g4 | exact cell_keep b2 g4 | go_keep)
          (first | (go_at_call 84; (try rw [EC4.out]); refine (laws_markText (K + 4) _ (by omega) (by omega)).mono ?_; rintro e w2 ⟨rfl, b2⟩) | fail)
        all_goals
          have k5 := cell_keep b2 g5
          have k6 := cell_keep b2 g6
          have k7 := cell_keep b2 g7
          have B2 := Lib.hid (below_then B1.out (below_then (Below.refl w1.heap.size w1).drew b2))
          clear b2 g2 g3 g4 g5 g6 g7
          go_wp2_with fail
          refine (laws_heldTermS kids (K + 5) tA tc _ (HR'.out.belowA B2.out) hl' hc' (by omega) (by omega)).mono ?_
          rintro e w3 ⟨rfl, b3⟩
          have m6 := cell_keep b3 k6
          have m7 := cell_keep b3 k7
          have B3 := Lib.hid (below_then B2.out b3)
          clear b3 k5 k6 k7
          go_wp2_with fail
          refine (VB.out (K + 5 + 3 * nodess kids) bA bc _ (RB.out.belowA B3.out) hb2 hb3 (by omega) (by omega)).mono ?_
          rintro e w4 ⟨rfl, b4⟩
          have n7 := cell_keep b4 m7
          have B4 := Lib.hid (below_then B3.out b4)
          clear b4 m6 m7
          go_wp2_with fail
          refine (VE.out (K + 5 + 3 * nodess kids + smarkss body) eA ec _ (RE.out.belowA B4.out) he2 he3 (by omega) (by omega)).mono ?_
          rintro e w5 ⟨rfl, b5⟩
          have B5 := Lib.hid (below_then B4.out b5)
          clear b5 n7
          go_wp2_with fail
          go_roundw
          case rel => exact ⟨j + 1, by omega, by go_num, by rw [HN.out]; exact congrArg (Value.int .i64) (by have := HK.out; omega), (HB.out.trans (B5.out.mono HB.out.size))⟩
          case measure => simp [intOf]; omega
    · go_wp2_with fail
      go_ret
      exact ⟨ret_int (by rw [List.take_of_length_le (by omega)]), HB.out⟩
theorem laws_heldStmtS (l : List St) : HgC l := by
  induction hN : snodess l using Nat.strongRecOn generalizing l with
  | ind N ih =>
    refine laws_heldStmtS_at l fun g hg k s t body els e => ?_
    have := snodess_le hg
    have h2 : snodes g = 1 + snodess body + snodess els := by rw [e, snodes]
    exact ⟨ih _ (by omega) body rfl, ih _ (by omega) els rfl⟩

/-- a box made: a fault's -/
theorem one_box (w : World) (f1 f2 : Int) (e : TypeId) :
    Box2 (w.alloc (.cells #[.int .i64 f1, .int .i64 f2] e)) w.heap.size f1 f2 ∧ Below w.heap.size w (w.alloc (.cells #[.int .i64 f1, .int .i64 f2] e)) := by
  have h1 := heap_alloc_new w (.cells #[.int .i64 f1, .int .i64 f2] e)
  refine ⟨⟨?_, ?_⟩, Below.alloc (Below.refl _ _) (Nat.le_refl _) _⟩
  · rw [Lib.cell_of_heap h1]; rfl
  · rw [Lib.cell_of_heap h1]; rfl
set_option maxHeartbeats 3200000 in
set_option maxRecDepth 100000 in
theorem law_ReadStmts (s : ByteArray) (w : World) (hs : s.size ≤ maxLen) (TB0 : TabW w) :
    Calls Tryd.prog 6 #[.string s] w fun e w' => e = .returned (.bool true) ∧ Below w.heap.size w w' := by
  have TB := Lib.hid TB0
  clear TB0
  by_cases h1 : (1048576 : Int) < (s.size : Int)
  · go_enter Tryd.func6, Tryd.ntmps6
    go_wp2_with fail
    go_ret
    exact ⟨rfl, Below.refl _ _⟩
  have hs2 : s.size ≤ 1048576 := by omega
  have hmk := readS_marks s
  obtain ⟨R, hR⟩ : ∃ R, readS s = R := ⟨_, rfl⟩
  obtain ⟨l, f1, f2⟩ := R
  have HR := Lib.hid hR
  rw [hR] at hmk
  simp only at hmk
  clear hR
  have st := samesG_yes (rfl : l = l)
  go_enter Tryd.func6, Tryd.ntmps6
  go_wp2_with fail
  have c1 := spec_ReadStmts s w hs2
  refine c1.mono ?_
  clear c1
  rw [HR.out]
  rintro e w1 ⟨A1, c1, rfl, hl1, hc1, t1, b1⟩
  simp only at hl1 hc1 t1
  have T1 := Lib.hid t1
  obtain ⟨y1, z1⟩ := one_box w1 f1 f2 26
  have Y1 := Lib.hid y1
  have BA : Hid (Below w.heap.size w (w1.alloc (.cells #[.int .i64 f1, .int .i64 f2] 26))) := Lib.hid (below_then b1 z1)
  have TA := Lib.hid (T1.out.belowO (fun b hb => hb.2) z1)
  clear b1 t1 y1 z1
  go_wp2_with fail
  obtain ⟨WA, hWA⟩ : ∃ W, w1.alloc (.cells #[.int .i64 f1, .int .i64 f2] 26) = W := ⟨_, rfl⟩
  have hz1 : w1.heap.size + 1 = WA.heap.size := by rw [← hWA]; simp
  rw [hWA] at Y1 BA TA ⊢
  clear hWA
  generalize hg1 : w1.heap.size = g1 at *
  have c2 := impl_ReadStmts s WA (TB.out.below BA.out)
  refine c2.mono ?_
  clear c2
  rw [HR.out]
  rintro e w2 ⟨A2, c2, rfl, hl2, hc2, t2, b2⟩
  simp only at hl2 hc2 t2
  have T2 := Lib.hid t2
  obtain ⟨y2, z2⟩ := one_box w2 f1 f2 26
  have Y2 := Lib.hid y2
  have BB : Hid (Below WA.heap.size WA (w2.alloc (.cells #[.int .i64 f1, .int .i64 f2] 26))) := Lib.hid (below_then b2 z2)
  have TBB := Lib.hid (T2.out.belowO (fun b hb => hb.2) z2)
  have hz2 := b2.size
  clear b2 t2 y2 z2
  go_upto_region 5 with fail
  obtain ⟨WB, hWB⟩ : ∃ W, w2.alloc (.cells #[.int .i64 f1, .int .i64 f2] 26) = W := ⟨_, rfl⟩
  have hzb : w2.heap.size + 1 = WB.heap.size := by rw [← hWB]; simp
  rw [hWB] at Y2 BB TBB ⊢
  clear hWB
  have FF : Hid (∀ b, Made WA w2 b → WA.heap.size ≤ b ∧ b < w2.heap.size) := Lib.hid fun b hb => hb
  have TBB2 : Hid (StRowO WB (fun b => WA.heap.size ≤ b ∧ b < w2.heap.size) A2 l) := Lib.hid (TBB.out.sub FF.out)
  clear TBB FF T2
  generalize hg2 : w2.heap.size = g2 at *
  have YB1 := Lib.hid (Y1.out.below BB.out)
  have TB1 : Hid (StRow AnyB WB A1 l) := Lib.hid (TA.out.any.belowA BB.out)
  obtain ⟨p4, p5⟩ := YB1.out
  obtain ⟨r4, r5⟩ := Y2.out
  go_wp2_with fail
  refine (laws_eqStmtS l l (fun g _ => laws_eqStmt g) A2 A1 c2 c1 _ TBB2.out.any TB1.out hl2 hl1 hc2 hc1).mono ?_
  rintro e w3 ⟨rfl, b3⟩
  have B3 := Lib.hid b3
  clear b3 p4 p5 r4 r5
  obtain ⟨p4, p5⟩ := YB1.out.below B3.out
  obtain ⟨r4, r5⟩ := Y2.out.below B3.out
  rw [st]
  go_wp2_with fail
  refine (laws_eqFault f1 f2 _).mono ?_
  rintro e w4 ⟨rfl, b4⟩
  have B4 := Lib.hid (below_then B3.out b4)
  clear b4 p4 p5 r4 r5 B3
  have hs4 := B4.out.size
  have T4 := Lib.hid (TBB2.out.belowO (fun b hb => by have := hb.2; omega) B4.out)
  go_wp2_with fail
  refine (laws_markStmtS l 1 A2 c2 _ _ T4.out (fun b hb => by have := hb.2; omega) hl2 hc2 (by omega) (by omega)).mono ?_
  rintro e w5 ⟨rfl, row5, kp5⟩
  have R5 := Lib.hid row5
  have KP := Lib.hid kp5
  clear row5 kp5
  go_wp2_with fail
  refine (laws_heldStmtS l 1 A2 c2 _ R5.out.any hl2 hc2 (by omega) (by omega)).mono ?_
  rintro e w6 ⟨rfl, b6⟩
  have B6 := Lib.hid b6
  clear b6
  have hneg : ¬ (((1 + smarkss l : Nat) : Int) < 0) := by omega
  have hsame : (((1 + smarkss l : Nat) : Int) != ((1 + smarkss l : Nat) : Int)) = false := by simp
  have BW6 : Hid (Below WA.heap.size WA w6) := Lib.hid (((below_then BB.out B4.out).trans (KP.out.below (n := WA.heap.size) (by have := BB.out.size; omega) (fun b hb h => by have := h.1; omega))).trans (B6.out.mono (by have := BB.out.size; have := KP.out.size; omega)))
  have BV6 := Lib.hid (below_then BA.out BW6.out)
  have R6 : Hid (StRow AnyB w6 A2 (mkGs 1 l)) := Lib.hid (R5.out.any.belowA B6.out)
  have YB6 := Lib.hid (Y1.out.below BW6.out)
  have TB6 : Hid (StRow AnyB w6 A1 l) := Lib.hid (TA.out.any.belowA BW6.out)
  clear R5 KP B6 YB1 TB1
  go_wp2_with fail
  have c7 := impl_ReadStmts s w6 (TB.out.below BV6.out)
  refine c7.mono ?_
  clear c7
  rw [HR.out]
  rintro e w7 ⟨A7, c7, rfl, hl7, hc7, t7, b7⟩
  simp only at hl7 hc7 t7
  have T7 := Lib.hid t7
  obtain ⟨y7, z7⟩ := one_box w7 f1 f2 26
  have Y7 := Lib.hid y7
  have BC : Hid (Below w6.heap.size w6 (w7.alloc (.cells #[.int .i64 f1, .int .i64 f2] 26))) := Lib.hid (below_then b7 z7)
  have TC := Lib.hid (T7.out.belowO (fun b hb => hb.2) z7)
  clear b7 t7 y7 z7
  go_upto_region 16 with fail
  obtain ⟨WC, hWC⟩ : ∃ W, w7.alloc (.cells #[.int .i64 f1, .int .i64 f2] 26) = W := ⟨_, rfl⟩
  rw [hWC] at Y7 BC TC ⊢
  clear hWC
  generalize hg7 : w7.heap.size = g7 at *
  have YC := Lib.hid (YB6.out.below BC.out)
  have TD : Hid (StRow AnyB WC A1 l) := Lib.hid (TB6.out.belowA BC.out)
  have R8 := Lib.hid (R6.out.belowA BC.out)
  have BV8 := Lib.hid (below_then BV6.out BC.out)
  clear YB6 TB6 R6 BC BV6 BW6
  obtain ⟨p4, p5⟩ := YC.out
  obtain ⟨r4, r5⟩ := Y7.out
  go_wp2_with fail
  refine (laws_eqStmtS l l (fun g _ => laws_eqStmt g) A7 A1 c7 c1 _ TC.out.any TD.out hl7 hl1 hc7 hc1).mono ?_
  rintro e w9 ⟨rfl, b9⟩
  have B9 := Lib.hid b9
  clear b9 p4 p5 r4 r5
  obtain ⟨p4, p5⟩ := YC.out.below B9.out
  obtain ⟨r4, r5⟩ := Y7.out.below B9.out
  rw [st]
  go_wp2_with fail
  refine (laws_eqFault f1 f2 _).mono ?_
  rintro e w10 ⟨rfl, b10⟩
  have B10 := Lib.hid (below_then B9.out b10)
  clear b10 p4 p5 r4 r5
  go_wp2_with fail
  refine (laws_heldStmtS l 1 A2 c2 _ (R8.out.belowA B10.out) hl2 hc2 (by omega) (by omega)).mono ?_
  rintro e w11 ⟨rfl, b11⟩
  have B11 := Lib.hid (below_then BV8.out (below_then B10.out b11))
  clear b11
  go_wp2_with fail
  go_ret
  exact ⟨rfl, B11.out⟩
end Go.Proofs.YtefcdpkficojgaaDoor
