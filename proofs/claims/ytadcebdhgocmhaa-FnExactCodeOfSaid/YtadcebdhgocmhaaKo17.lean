/- Lemmas for the row. -/
import Derived.Test.YtadcebdhgocmhaaKo16
import Derived.Deep.RegionLaw
import Derived.Deep.CutRange
import Derived.Test.YtadcebdhgocmhaaKo8
import Derived.Test.YtadcebdhgocmhaaKo5
namespace Go.Proofs.Ytadcebdhgocmhaa
open Go.RowKit
set_option linter.unusedVariables false
theorem box4 {w : World} {g : Nat} {a b c x : Value} {T : TypeId} (h : w.heap[g]? = some (.cells #[a, b, c, x] T (0, 0))) : w.cell? ⟨g, 0, none⟩ = some a ∧ w.cell? ⟨g, 1, none⟩ = some b ∧ w.cell? ⟨g, 2, none⟩ = some c ∧ w.cell? ⟨g, 3, none⟩ = some x ∧ w.frozen? ⟨g, 3, none⟩ = false :=
  ⟨by rw [Lib.cell_of_heap h]; rfl, by rw [Lib.cell_of_heap h]; rfl, by rw [Lib.cell_of_heap h]; rfl, by rw [Lib.cell_of_heap h]; rfl, Lib.frozen_of_heap h 3⟩
theorem cells7 {w : World} {g : Nat} {a0 a1 a2 a3 a4 a5 a6 : Value} {T : TypeId} (h : w.heap[g]? = some (.cells #[a0, a1, a2, a3, a4, a5, a6] T (0, 0))) : w.cell? ⟨g, 0, none⟩ = some a0 ∧ w.cell? ⟨g, 1, none⟩ = some a1 ∧ w.cell? ⟨g, 2, none⟩ = some a2 ∧ w.cell? ⟨g, 3, none⟩ = some a3 ∧ w.cell? ⟨g, 4, none⟩ = some a4 ∧ w.cell? ⟨g, 5, none⟩ = some a5 ∧ w.cell? ⟨g, 6, none⟩ = some a6 := by
  refine ⟨?_, ?_, ?_, ?_, ?_, ?_, ?_⟩ <;> (rw [Lib.cell_of_heap h]; rfl)
theorem s4_3e {w : World} {g : Nat} {a b c x : Value} {T : TypeId} (h : w.heap[g]? = some (.cells #[a, b, c, x] T (0, 0))) (u : Value) : (w.setCell ⟨g, 3, none⟩ u).heap[g]? = some (.cells #[a, b, c, u] T (0, 0)) := by simp [World.setCell, Array.getElem?_modify, h]
set_option maxHeartbeats 3200000 in
set_option maxRecDepth 100000 in
theorem spec_l08Put (w0 w : World) (eb : Nat) (gA lA pA A A2 : Option Addr) (gn gc ln lc pn pc n c q2 c2 : Nat) (op arg k2 m2 tg : Int) (s2 : ByteArray) (cur : List Ic) (i : Ic) (base : Nat) (Z H : Nat → Prop)
    (hb : Below w0.heap.size w0 w) (hbox : w0.heap[eb]? = some (.cells #[.slice gA gn gc, .slice lA ln lc, .slice pA pn pc, .slice A n c] 74 (0, 0))) (hgr : GrwI base Z w0 (.slice A n c) cur) (heb : eb < base) (hbase : base ≤ w0.heap.size) (hZ : ∀ b, Z b → b < w0.heap.size) (hi : IcP w H [.int .i64 op, .int .i64 arg, .int .i64 k2, .int .i64 m2, .string s2, .slice A2 q2 c2, .int .i64 tg] i) (hH : ∀ b, H b → w0.heap.size ≤ b ∧ b < w.heap.size) (hn : n ≤ 100000) :
    Calls Try.prog 46 #[.pointer (some ⟨eb, 0, none⟩), .agg #[.int .i64 op, .int .i64 arg, .int .i64 k2, .int .i64 m2, .string s2, .slice A2 q2 c2, .int .i64 tg]] w fun e w' => e = .returned (.int .i64 (n : Int)) ∧ ∃ A' n' c', w'.heap[eb]? = some (.cells #[.slice gA gn gc, .slice lA ln lc, .slice pA pn pc, .slice A' n' c'] 74 (0, 0)) ∧ n' = n + 1 ∧ GrwI base Z w' (.slice A' n' c') (cur ++ [i]) ∧ Keep (Fz base Z eb) w0 w' := by
  have HB := Lib.hid hb
  have HI := Lib.hid hi
  have HH := Lib.hid hH
  have HZ := Lib.hid hZ
  have GR := Lib.hid hgr
  have KB := Lib.hid ((hb.block eb (by omega)).trans hbox)
  have HL : Hid (cur.length = n) := Lib.hid (by obtain ⟨_, _, e, _, _⟩ := hgr.slice; injection e with _ e; exact e.symm)
  have hw0 := hb.size
  clear hb hi hH hZ hgr hbox
  have BX : Hid (Below w.heap.size w (w.alloc (.cells #[.int .i64 op, .int .i64 arg, .int .i64 k2, .int .i64 m2, .string s2, .slice A2 q2 c2, .int .i64 tg] 78))) := Lib.hid (Below.alloc (Below.refl _ _) (Nat.le_refl _) _)
  have VX : Hid ((w.alloc (.cells #[.int .i64 op, .int .i64 arg, .int .i64 k2, .int .i64 m2, .string s2, .slice A2 q2 c2, .int .i64 tg] 78)).heap[w.heap.size]? = some (.cells #[.int .i64 op, .int .i64 arg, .int .i64 k2, .int .i64 m2, .string s2, .slice A2 q2 c2, .int .i64 tg] 78 (0, 0))) := Lib.hid (heap_alloc_new _ _)
  have KX := Lib.hid ((BX.out.block eb (lt_of_block KB.out)).trans KB.out)
  have hzx : w0.heap.size ≤ (w.alloc (.cells #[.int .i64 op, .int .i64 arg, .int .i64 k2, .int .i64 m2, .string s2, .slice A2 q2 c2, .int .i64 tg] 78)).heap.size := by simp; omega
  go_enter Try.func46, Try.ntmps46
  go_wp2_with fail
  obtain ⟨u, hu⟩ : ∃ u, w.alloc (.cells #[.int .i64 op, .int .i64 arg, .int .i64 k2, .int .i64 m2, .string s2, .slice A2 q2 c2, .int .i64 tg] 78) = u := ⟨_, rfl⟩
  rw [hu] at BX VX KX hzx ⊢
  obtain ⟨xb, hxb⟩ : ∃ x, w.heap.size = x := ⟨_, rfl⟩
  rw [hxb] at VX ⊢
  have hxe : ¬ xb = eb := by omega
  have hex : ¬ eb = xb := by omega
  have HXB := Lib.hid hxb
  have BU : Hid (Below w0.heap.size w0 u) := Lib.hid (below_then HB.out BX.out)
  have IU : Hid (IcP u H [.int .i64 op, .int .i64 arg, .int .i64 k2, .int .i64 m2, .string s2, .slice A2 q2 c2, .int .i64 tg] i) := Lib.hid (IcP.keepP _ _ _ _ _ HI.out fun b q => BX.out.block b (HH.out b q).2)
  clear hu hxb
  obtain ⟨k0, k1, k2', k3, kf⟩ := box4 KX.out
  obtain ⟨x0, x1, x2, x3, x4, x5, x6⟩ := cells7 VX.out
  have hke := lt_of_block KX.out
  have hkx := lt_of_block VX.out
  obtain ⟨cs, G, hat⟩ := GR.out
  have HAT := Lib.hid hat
  have OW := Lib.hid (hat.ow.keep (Keep.of_below (S := fun _ => True) (below_then BU.out (Below.refl u.heap.size u).drew)) (fun _ _ => trivial)).own
  rw [HL.out] at OW
  have tst1 : n + 1 ≤ 2000000 := by omega
  clear hat
  go_upto_region 1 with fail
  go_region_law (first
    | (refine step_appG _ inT (by rfl) _ _ (by rfl) (by rfl) (OW.out.alloc _) _ 1 1 [.int .i64 op, .int .i64 arg, .int .i64 k2, .int .i64 m2, .string s2, .slice A2 q2 c2, .int .i64 tg] (by rfl) (by first | exact Rd.new _ 7 1 _ _ rfl | exact (Rd.new _ 7 1 _ _ rfl).drew) (by simp [Value.oneCell']) tst1 (by decide) ?_; intro v' wz own' gr'; have GZ' : Grew (.slice A n c) v' u.drew wz := (Grew.of_below (Below.alloc (Below.refl _ _) (Nat.le_refl _) _)).trans gr'; have hog : (Value.slice A n c).ownBlock ≠ some eb := (fun e => by have := (HAT.out.ow.lt eb e).1; omega); have KZ := Lib.hid ((GZ'.keep.block eb hke hog).trans KX.out); obtain ⟨y0, y1, y2, y3, yf⟩ := box4 KZ.out; have hy := lt_of_block KZ.out; obtain ⟨A1, c1, rfl, _⟩ := own'.slice; obtain ⟨n1, hn1⟩ : ∃ m, n + 1 = m := ⟨_, rfl⟩; rw [hn1] at own' GZ' ⊢; have HNN : Hid (cur.length + 1 = n1) := Lib.hid (by rw [HL.out]; exact hn1); have OWN : Hid (Own (cutX base u.drew) wz 78 7 (.slice A1 n1 c1) (cur.length + 1) (cs.flatten ++ [.int .i64 op, .int .i64 arg, .int .i64 k2, .int .i64 m2, .string s2, .slice A2 q2 c2, .int .i64 tg])) := Lib.hid (by rw [HNN.out]; exact own'); have GZ := Lib.hid GZ'; clear own' gr' GZ' hn1))
  all_goals
    have DONE := grwi_app (o := 3) heb HAT.out (below_then BU.out (Below.refl u.heap.size u).drew) (IcP.keepP _ _ _ _ _ IU.out fun b q => rfl) (fun b q => ⟨(HH.out b q).1, Nat.lt_of_lt_of_le (HH.out b q).2 BX.out.size⟩) HZ.out OWN.out GZ.out (.slice A1 n1 c1)
    have KN : Hid ((wz.setCell ⟨eb, 3, none⟩ (.slice A1 n1 c1)).heap[eb]? = some (.cells #[.slice gA gn gc, .slice lA ln lc, .slice pA pn pc, .slice A1 n1 c1] 74 (0, 0))) := Lib.hid (s4_3e KZ.out _)
    have GN := Lib.hid DONE.1
    have KP := Lib.hid DONE.2.1
    have hn1 : n1 = n + 1 := by have := HNN.out; have := HL.out; omega
    have HN1 := Lib.hid hn1
    have hwr : IntKind.i64.wrap ((n1 : Int) - 1) = (n : Int) := by rw [IntWalk.i64_in _ (by omega)]; omega
    obtain ⟨uz, huz⟩ : ∃ u, wz.setCell ⟨eb, 3, none⟩ (.slice A1 n1 c1) = u := ⟨_, rfl⟩
    rw [huz] at KN GN KP ⊢
    clear DONE huz k0 k1 k2' k3 kf x0 x1 x2 x3 x4 x5 x6 y0 y1 y2 y3 yf hy hn1 tst1
    obtain ⟨k0, k1, k2', k3, kf⟩ := box4 KN.out
    have hke' := lt_of_block KN.out
    go_wp2_with fail
    go_ret
    exact ⟨rfl, A1, n1, c1, KN.out, HN1.out, GN.out, KP.out⟩
abbrev SgC (g : St) : Prop := ∀ (x : V8) (w : World) (left : Int), StIs AnyB w x g → 0 ≤ left → left ≤ 1048576 →
  Calls Try.prog 115 #[.agg #[.int .i64 x.k, .string x.s, .int .i64 x.tk, .int .i64 x.tn, .string x.ts, .slice x.tA x.tm x.tc, .slice x.bA x.bm x.bc, .slice x.eA x.em x.ec], .int .i64 left] w fun e w' => e = .returned (.int .i64 (cut0 (left - (totG g : Int)))) ∧ Below w.heap.size w w'
set_option maxHeartbeats 400000 in
theorem laws_szStmtS (l : List St) (ih : ∀ g ∈ l, SgC g) (A : Option Addr) (c : Nat) (w : World) (left : Int) (row : StRow AnyB w A l) (hl : l.length ≤ c) (hc : c ≤ maxLen) (h0 : 0 ≤ left) (h1 : left ≤ 1048576) :
    Calls Try.prog 104 #[.slice A l.length c, .int .i64 left] w fun e w' => e = .returned (.int .i64 (cut0 (left - (totGs l : Int)))) ∧ Below w.heap.size w w' := by
  unfold maxLen at hc
  have IH := Lib.hid ih
  have RW := Lib.hid row
  have hlen := totGs_len l
  clear ih row
  by_cases g0 : left - (l.length : Int) < 0
  · have F := Lib.hid (cut0_neg (n := left - (totGs l : Int)) (by omega))
    go_enter Try.func104, Try.ntmps104
    go_wp2_with fail
    go_ret
    exact ⟨ret_int F.out.symm, Below.refl _ _⟩
  · go_enter Try.func104, Try.ntmps104
    go_wp2_with fail
    go_loopw [1, 5] (fun u i wr => ∃ (k : Nat) (m : Int), k ≤ l.length ∧ i = .int .i64 k ∧ u = .int .i64 m ∧ 0 ≤ m ∧ m ≤ left ∧ Hid (m = left - ((l.length : Int) - (k : Int)) - (totGs (l.take k) : Int)) ∧ Below w.heap.size w wr) (fun _ i _ => l.length - (intOf i).toNat)
    case atStart => exact ⟨0, _, Nat.zero_le _, rfl, rfl, by omega, by omega, Lib.hid (by simp [totGs]), Below.refl _ _⟩
    case round =>
      obtain ⟨k, m, hk, rfl, rfl, hm0, hm1, HM, hb⟩ := hrel
      have HB := Lib.hid hb
      clear hb
      by_cases hlt : k < l.length
      · obtain ⟨b, off, x, rfl, _, ⟨d0, d1, d2, d3, d4, d5, d6, d7⟩, ht⟩ := rd_stmt (RW.out.belowA HB.out) hlt
        have HT := Lib.hid ht
        have HS := Lib.hid (totGs_take l k hlt)
        have HD := Lib.hid (totGs_drop l (k + 1) hlt)
        have h0k : (0 : Int) ≤ (k : Int) := by omega
        clear ht hlen
        go_wp2_with fail
        refine (IH.out _ (List.getElem_mem hlt) x _ m HT.out hm0 (by omega)).mono ?_
        rintro e w1 ⟨rfl, b1⟩
        have B1 := Lib.hid (HB.out.trans (b1.mono HB.out.size))
        clear b1
        by_cases g1 : m - (totG l[k] : Int) < 0
        · rw [cut0_neg g1]
          go_wp2_with fail
          go_ret
          refine ⟨ret_int ?_, B1.out⟩
          have e1 := HS.out
          have e2 := HD.out
          have e3 := HM.out
          exact (cut0_neg (by omega)).symm
        · rw [cut0_pos (by omega)]
          go_wp2_with fail
          go_roundw
          case rel =>
            refine ⟨k + 1, m - (totG l[k] : Int), by omega, by go_num, rfl, by omega, by omega, Lib.hid ?_, B1.out⟩
            have e1 := HS.out
            have e3 := HM.out
            omega
          case measure => simp [intOf]; omega
      · go_wp2_with fail
        go_ret
        refine ⟨ret_int ?_, HB.out⟩
        have e3 := HM.out
        rw [List.take_of_length_le (by omega)] at e3
        rw [cut0_pos (by omega)]
        omega
set_option maxHeartbeats 800000 in
theorem laws_szStmt (g : St) : SgC g := by
  induction hN : snodes g using Nat.strongRecOn generalizing g with
  | ind N ih =>
    intro x w left hg h0 h1
    obtain ⟨t, body, els, rfl, hk, hs, ht, hb1, hb2, hb3, rb, he1, he2, he3, re⟩ := hg.inv
    have IB : Hid (∀ y ∈ body, SgC y) := Lib.hid fun y hy => ih (snodes y) (by rw [← hN]; exact body_lt hy) y rfl
    have IE : Hid (∀ y ∈ els, SgC y) := Lib.hid fun y hy => ih (snodes y) (by rw [← hN]; exact else_lt hy) y rfl
    have HTT : Hid (totG (.mk x.k x.s t body els) = x.s.size + totT t + totGs body + totGs els) := Lib.hid (by rw [totG])
    have HT := Lib.hid ht
    have RB := Lib.hid rb
    have RE := Lib.hid re
    obtain ⟨k, s, tk, tn, ts, tA, tm, tc, bA, bm, bc, eA, em, ec⟩ := x
    simp only at hs hb1 hb2 hb3 he1 he2 he3 RB RE HTT
    simp only
    subst hb1 he1
    unfold maxLen at hs
    clear ih hN hg ht rb re hk
    by_cases g0 : left - (s.size : Int) < 0
    · have F := Lib.hid (cut0_neg (n := left - (totG (.mk k s t body els) : Int)) (by rw [HTT.out]; omega))
      go_enter Try.func115, Try.ntmps115
      go_wp2_with fail
      go_ret
      exact ⟨ret_int F.out.symm, (by repeat' first|exact .refl _ _|exact Nat.le_refl _|refine .alloc ?_ ?_ _|refine .setCell ?_ ?_ _|refine .drew ?_|refine below_drewN ?_ _|assumption|(simp;done)|(simp;omega))⟩
    have g0' : 0 ≤ left - (s.size : Int) := by omega
    go_enter Try.func115, Try.ntmps115
    go_wp2_with fail
    refine (laws_szTerm t tk tn ts tA tm tc _ (left - (s.size : Int)) (HT.out.belowA (by repeat' first|exact .refl _ _|exact Nat.le_refl _|refine .alloc ?_ ?_ _|refine .setCell ?_ ?_ _|refine .drew ?_|refine below_drewN ?_ _|assumption|(simp;done)|(simp;omega))) g0' (by omega)).mono ?_
    rintro e w1 ⟨rfl, b1⟩
    have B1 : Below w.heap.size w w1 := Below.trans (by repeat' first|exact .refl _ _|exact Nat.le_refl _|refine .alloc ?_ ?_ _|refine .setCell ?_ ?_ _|refine .drew ?_|refine below_drewN ?_ _|assumption|(simp;done)|(simp;omega)) (b1.mono (by simp))
    have H1 := Lib.hid B1
    obtain ⟨hcell, hfree⟩ := old_cells b1
    simp only [World.size_alloc] at hcell hfree
    have hz1 : w.heap.size < w1.heap.size := by have := b1.size; simp at this; omega
    clear b1 B1
    by_cases g1 : left - (s.size : Int) - (totT t : Int) < 0
    · rw [cut0_neg g1]
      go_wp2_with fail
      go_ret
      exact ⟨ret_int (by rw [HTT.out]; exact (cut0_neg (by omega)).symm), H1.out⟩
    rw [cut0_pos (by omega)]
    have g1' : 0 ≤ left - (s.size : Int) - (totT t : Int) := by omega
    go_wp2_with fail
    refine (laws_szStmtS body IB.out bA bc _ (left - (s.size : Int) - (totT t : Int)) (RB.out.belowA H1.out) hb2 hb3 g1' (by omega)).mono ?_
    rintro e w2 ⟨rfl, b2⟩
    have H2 := Lib.hid (below_then H1.out b2)
    obtain ⟨hcell2, hfree2⟩ := old_cells b2
    clear b2
    by_cases g2 : left - (s.size : Int) - (totT t : Int) - (totGs body : Int) < 0
    · rw [cut0_neg g2]
      go_wp2_with fail
      go_ret
      exact ⟨ret_int (by rw [HTT.out]; exact (cut0_neg (by omega)).symm), H2.out⟩
    rw [cut0_pos (by omega)]
    have g2' : 0 ≤ left - (s.size : Int) - (totT t : Int) - (totGs body : Int) := by omega
    go_wp2_with fail
    refine (laws_szStmtS els IE.out eA ec _ (left - (s.size : Int) - (totT t : Int) - (totGs body : Int)) (RE.out.belowA H2.out) he2 he3 g2' (by omega)).mono ?_
    rintro e w3 ⟨rfl, b3⟩
    have H3 := Lib.hid (below_then H2.out b3)
    clear b3
    by_cases g3 : left - (s.size : Int) - (totT t : Int) - (totGs body : Int) - (totGs els : Int) < 0
    · rw [cut0_neg g3]
      go_wp2_with fail
      go_ret
      exact ⟨ret_int (by rw [HTT.out]; exact (cut0_neg (by omega)).symm), H3.out⟩
    rw [cut0_pos (by omega)]
    go_wp2_with fail
    go_ret
    exact ⟨ret_int (by rw [HTT.out, cut0_pos (by omega)]; omega), H3.out⟩
def z8 : V8 := ⟨0, ByteArray.empty, 0, 0, ByteArray.empty, none, 0, 0, none, 0, 0, none, 0, 0⟩
def put8 (w : World) (g o : Nat) (x : V8) : World := (((((((w.setCell ⟨g, o, none⟩ (Value.int .i64 x.k)).setCell ⟨g, o + 1, none⟩ (Value.string x.s)).setCell ⟨g, o + 2, none⟩ (Value.int .i64 x.tk)).setCell ⟨g, o + 3, none⟩ (Value.int .i64 x.tn)).setCell ⟨g, o + 4, none⟩ (Value.string x.ts)).setCell ⟨g, o + 5, none⟩ (Value.slice x.tA x.tm x.tc)).setCell ⟨g, o + 6, none⟩ (Value.slice x.bA x.bm x.bc)).setCell ⟨g, o + 7, none⟩ (Value.slice x.eA x.em x.ec)
theorem Own.put8 {w0 w : World} {e : TypeId} {g n cap : Nat} {xs : List Value} (h : Own w0 w e 8 (.slice (some ⟨g, 0, none⟩) n cap) n xs) (o : Nat) (x : V8) : Own w0 (put8 w g o x) e 8 (.slice (some ⟨g, 0, none⟩) n cap) n (sets xs o x.cells) :=
  (((((((h.set o (Value.int .i64 x.k)).set (o + 1) (Value.string x.s)).set (o + 2) (Value.int .i64 x.tk)).set (o + 3) (Value.int .i64 x.tn)).set (o + 4) (Value.string x.ts)).set (o + 5) (Value.slice x.tA x.tm x.tc)).set (o + 6) (Value.slice x.bA x.bm x.bc)).set (o + 7) (Value.slice x.eA x.em x.ec)
theorem put8_size (w : World) (g o : Nat) (x : V8) : (put8 w g o x).heap.size = w.heap.size := by simp [put8]
theorem Own.set_other {w0 w w0' : World} {e e' : TypeId} {sz sz' n n' g g' cap cap' : Nat} {xs xs' : List Value} (h : Own w0 w e sz (.slice (some ⟨g, 0, none⟩) n cap) n xs) (h' : Own w0' w e' sz' (.slice (some ⟨g', 0, none⟩) n' cap') n' xs') (hne : g ≠ g') (hg : w0.heap.size ≤ g') (j : Nat) (u : Value) :
    Own w0 (w.setCell ⟨g', j, none⟩ u) e sz (.slice (some ⟨g, 0, none⟩) n cap) n xs :=
  ⟨h.1.kept (h'.1.stored j u).2 (by simp [Value.ownBlock]; first | exact hne | exact fun e => hne e.symm | omega), h.2.setCell hg u⟩
theorem Own.lit8 {w0 w : World} (h : Below w0.heap.size w0 w) {e : TypeId} {cs : Array Value} (hs : cs.size = 8) {g : Nat} (hg : g = w.heap.size) : Own w0 (w.alloc (.cells cs e)) e 8 (.slice (some ⟨g, 0, none⟩) 1 1) 1 cs.toList := by
  subst hg
  exact Own.lit h e 8 1 cs (by simp [maxLen]) (by omega)
theorem sgT : ElemT Try.prog 29 36 8 128 := ElemT.mk' (z := .agg #[.int .i64 0, .string ByteArray.empty, .int .i64 0, .int .i64 0, .string ByteArray.empty, .slice none 0 0, .slice none 0 0, .slice none 0 0]) Try.underlying29 (by kernel_rfl) rfl (by decide)
theorem sgZ : (Try.prog.info? 36).map (fun i => i.zero) = some (some (.agg #[.int .i64 0, .string ByteArray.empty, .int .i64 0, .int .i64 0, .string ByteArray.empty, .slice none 0 0, .slice none 0 0, .slice none 0 0])) := by kernel_rfl
end Go.Proofs.Ytadcebdhgocmhaa
