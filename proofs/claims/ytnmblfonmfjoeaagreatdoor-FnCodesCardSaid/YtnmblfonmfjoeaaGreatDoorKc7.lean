/- Lemmas for the row. -/
import Derived.Test.YtnmblfonmfjoeaaGreatDoorKc6
namespace Go.Proofs.YtnmblfonmfjoeaaGreatDoor
open Go.RowKit
set_option maxHeartbeats 1600000
set_option linter.unusedVariables false
abbrev CpI (t : Tm) : Prop := ∀ (k n : Int) (s : ByteArray) (A : Option Addr) (m c : Nat) (w : World), TmIs AnyB w [.int .i64 k, .int .i64 n, .string s, .slice A m c] t → totT t ≤ 1048576 →
 Calls Tryz.prog 49 #[.agg #[.int .i64 k, .int .i64 n, .string s, .slice A m c]] w (RetTO w t)
abbrev CpS (t : Tm) : Prop := ∀ (k n : Int) (s : ByteArray) (A : Option Addr) (m c : Nat) (w : World), TmIs AnyB w [.int .i64 k, .int .i64 n, .string s, .slice A m c] t → totT t ≤ 1048576 →
 Calls Tryz.prog 56 #[.agg #[.int .i64 k, .int .i64 n, .string s, .slice A m c]] w (RetTO w t)
theorem term4 {w : World} {g : Nat} {a b c d : Value} {T : TypeId} (h : w.heap[g]? = some (.cells #[a, b, c, d] T (0, 0))) : w.cell? ⟨g, 0, none⟩ = some a ∧ w.cell? ⟨g, 1, none⟩ = some b ∧ w.cell? ⟨g, 2, none⟩ = some c ∧ w.cell? ⟨g, 3, none⟩ = some d ∧ w.frozen? ⟨g, 0, none⟩ = false ∧ w.frozen? ⟨g, 1, none⟩ = false ∧ w.frozen? ⟨g, 2, none⟩ = false ∧ w.frozen? ⟨g, 3, none⟩ = false :=
 ⟨by rw [Lib.cell_of_heap h]; rfl, by rw [Lib.cell_of_heap h]; rfl, by rw [Lib.cell_of_heap h]; rfl, by rw [Lib.cell_of_heap h]; rfl, Lib.frozen_of_heap h 0, Lib.frozen_of_heap h 1, Lib.frozen_of_heap h 2, Lib.frozen_of_heap h 3⟩
theorem s4_all {w : World} {g : Nat} {a b c d : Value} {T : TypeId} (h : w.heap[g]? = some (.cells #[a, b, c, d] T (0, 0))) (x y z u : Value) : ((((w.setCell ⟨g, 0, none⟩ x).setCell ⟨g, 1, none⟩ y).setCell ⟨g, 2, none⟩ z).setCell ⟨g, 3, none⟩ u).heap[g]? = some (.cells #[x, y, z, u] T (0, 0)) := by simp [World.setCell, Array.getElem?_modify, h]
theorem s4_3 {w : World} {g : Nat} {a b c d : Value} {T : TypeId} (h : w.heap[g]? = some (.cells #[a, b, c, d] T (0, 0))) (u : Value) : (w.setCell ⟨g, 3, none⟩ u).heap[g]? = some (.cells #[a, b, c, u] T (0, 0)) := by simp [World.setCell, Array.getElem?_modify, h]
theorem s4_blk {w : World} {g k : Nat} (x y z u : Value) (h : ¬ k = g) : ((((w.setCell ⟨g, 0, none⟩ x).setCell ⟨g, 1, none⟩ y).setCell ⟨g, 2, none⟩ z).setCell ⟨g, 3, none⟩ u).heap[k]? = w.heap[k]? :=
 (((Below.heap_setCell _ ⟨g, 3, none⟩ u k h).trans (Below.heap_setCell _ ⟨g, 2, none⟩ z k h)).trans (Below.heap_setCell _ ⟨g, 1, none⟩ y k h)).trans (Below.heap_setCell _ ⟨g, 0, none⟩ x k h)
abbrev NoB : Nat → Prop := fun _ => False
abbrev GrwTm (base : Nat) (w : World) (v : Value) (l : List Tm) : Prop := GrwX TmO 43 4 base NoB w v l
theorem GrwTm.rowO {base : Nat} {w : World} {A : Option Addr} {c : Nat} {l : List Tm} (h : GrwTm base w (.slice A l.length c) l) : TmRowO w (fun b => base ≤ b ∧ b < w.heap.size) A l :=
 TmRowO.sub (F := fun b => base ≤ b ∧ b < w.heap.size ∧ ¬ NoB b) (GrwX.row h) (fun b hb => ⟨hb.1, hb.2.1⟩)
set_option maxRecDepth 100000 in
theorem impl_copyTerm (t : Tm) : CpI t := by
 induction hN : nodes t using Nat.strongRecOn generalizing t with
 | ind N ih =>
  intro k n s A m c w ht htot
  obtain ⟨kids, rfl, rfl, hl, hc, hk, hn, hs, row⟩ := ht.inv
  have IH : Hid (∀ x ∈ kids, CpI x) := qh fun x hx => ih (nodes x) (by rw [← hN]; exact kid_lt hx) x rfl
  have RW := qh row
  have htk : totTs kids ≤ 1048576 := by rw [totT] at htot; omega
  have hlen := totTs_len kids
  have HT := qh (fun t (hm : t ∈ kids) => show totT t ≤ 1048576 from by have := totTs_le hm; omega)
  have KK := qh hk
  have NN := qh hn
  have SS := qh hs
  unfold maxLen at hc
  clear ih hN ht row htot hk hn hs
  go_enter Tryz.func49, Tryz.ntmps49
  go_wp2_with fail
  have BA : Hid (Below w.heap.size w ((w.alloc (.cells #[.int .i64 k, .int .i64 n, .string s, .slice A kids.length c] 43)).alloc (.cells #[.int .i64 0, .int .i64 0, .string ⟨#[]⟩, .slice none 0 0] 43))) := qh zB
  have V1 : Hid (((w.alloc (.cells #[.int .i64 k, .int .i64 n, .string s, .slice A kids.length c] 43)).alloc (.cells #[.int .i64 0, .int .i64 0, .string ⟨#[]⟩, .slice none 0 0] 43)).heap[w.heap.size]? = some (.cells #[.int .i64 k, .int .i64 n, .string s, .slice A kids.length c] 43 (0, 0))) := qh ((heap_alloc_lt (by simp)).trans (heap_alloc_new _ _))
  have V2 : Hid (((w.alloc (.cells #[.int .i64 k, .int .i64 n, .string s, .slice A kids.length c] 43)).alloc (.cells #[.int .i64 0, .int .i64 0, .string ⟨#[]⟩, .slice none 0 0] 43)).heap[w.heap.size + 1]? = some (.cells #[.int .i64 0, .int .i64 0, .string ⟨#[]⟩, .slice none 0 0] 43 (0, 0))) := qh (by have := heap_alloc_new (w.alloc (.cells #[.int .i64 k, .int .i64 n, .string s, .slice A kids.length c] 43)) (.cells #[.int .i64 0, .int .i64 0, .string ⟨#[]⟩, .slice none 0 0] 43); simpa using this)
  obtain ⟨wa, hwa⟩ : ∃ wa, (w.alloc (.cells #[.int .i64 k, .int .i64 n, .string s, .slice A kids.length c] 43)).alloc (.cells #[.int .i64 0, .int .i64 0, .string ⟨#[]⟩, .slice none 0 0] 43) = wa := ⟨_, rfl⟩
  have hza1 : wa.heap.size ≤ w.heap.size + 2 := by rw [← hwa]; simp
  have hza2 : w.heap.size + 2 ≤ wa.heap.size := by rw [← hwa]; simp
  (try rw [hwa] at BA V1 V2)
  (try rw [hwa])
  clear hwa
  obtain ⟨g1, hg1⟩ : ∃ g, w.heap.size = g := ⟨_, rfl⟩
  obtain ⟨g2, hg2⟩ : ∃ g, w.heap.size + 1 = g := ⟨_, rfl⟩
  have HG1 := qh hg1
  have HG2 := qh hg2
  have hn12 : ¬ g1 = g2 := by omega
  have hn21 : ¬ g2 = g1 := by omega
  rw [hg1] at V1
  rw [hg2] at V2
  (try rw [hg2])
  (try rw [hg1])
  obtain ⟨c0, c1, c2, c3, _, _, _, _⟩ := term4 V1.out
  clear hg1 hg2
  go_wp2_with fail
  go_loopw [3, 9] (fun v i wr => ∃ (j : Nat) (A' : Option Addr) (c' : Nat), j ≤ kids.length ∧ i = .int .i64 j ∧ v = .slice A' j c' ∧ Hid (GrwTm wa.heap.size wr (.slice A' (kids.take j).length c') (kids.take j) ∧ Below wa.heap.size wa wr)) (fun _ i _ => kids.length - (intOf i).toNat)
  case atStart => exact ⟨0, none, 0, Nat.zero_le _, rfl, rfl, qh ⟨GrwX.nil (Nat.le_refl _), Below.refl _ _⟩⟩
  case round =>
   rename World => wr
   obtain ⟨j, A', c', hj, rfl, rfl, HR⟩ := hrel
   obtain ⟨hgr, hbl⟩ := HR.out
   have GR := qh hgr
   have BR := qh hbl
   have hsr := hbl.size
   clear hgr hbl HR c0 c1 c2 c3
   by_cases hlt : j < kids.length
   ·obtain ⟨b, off, kd, nn, s', A1, m1, c1', rfl, _, d0, d1, d2, d3, hterm⟩ := rd_term (RW.out.belowA (below_then BA.out BR.out)) hlt
    have HTm := qh hterm
    have h0k : (0 : Int) ≤ (j : Int) := by omega
    have h1k : (j : Int) < (kids.length : Int) := by omega
    clear hterm
    have B3 : Hid (Below wr.heap.size wr (wr.alloc (.cells #[.int .i64 kd, .int .i64 nn, .string s', .slice A1 m1 c1'] 43))) := qh (Below.alloc (Below.refl _ _) (Nat.le_refl _) _)
    have V3 : Hid ((wr.alloc (.cells #[.int .i64 kd, .int .i64 nn, .string s', .slice A1 m1 c1'] 43)).heap[wr.heap.size]? = some (.cells #[.int .i64 kd, .int .i64 nn, .string s', .slice A1 m1 c1'] 43 (0, 0))) := qh (heap_alloc_new _ _)
    go_wp2_with fail
    refine (IH.out _ (List.getElem_mem hlt) kd nn s' A1 m1 c1' _ (HTm.out.belowA B3.out) (HT.out _ (List.getElem_mem hlt))).mono ?_
    rintro e w4 ⟨k2, n2, s2, A2, m2, c2', rfl, ht2, b2⟩
    have T2 := qh ht2
    have B4 : Hid (Below wr.heap.size wr w4) := qh (below_then B3.out b2)
    have hs4 := B4.out.size
    have hs3 : wr.heap.size + 1 ≤ w4.heap.size := by have := b2.size; simpa using this
    clear ht2 b2
    obtain ⟨cs, G, hat⟩ := GR.out
    have HAT := qh hat
    have hjl : (kids.take j).length = j := by rw [List.length_take]; omega
    have OW := qh (hat.ow.keep (Keep.of_below (S := fun _ => True) B4.out) (fun _ _ => trivial)).own
    rw [hjl] at OW
    have tst1 : j + 1 ≤ maxLen := by simp only [maxLen]; omega
    have tst2 : (j + 1) * 56 ≤ 140737488355328 := by omega
    clear hat hjl
    go_wp2_with (at_builtin; refine wpList_appG_new w4.heap.size rfl rfl _ _ _ rfl tmT OW.out _ 1 rfl rfl rfl (by simp [Value.oneCell']) tst1 tst2 ?_; intro v7 w5 own7 gr7; obtain ⟨A7, c7, rfl, _⟩ := own7.slice; have hwz5 := gr7.keep.size)
    have GN : Hid (GrwTm wa.heap.size w5 (.slice A7 (kids.take (j + 1)).length c7) (kids.take (j + 1))) := qh (by
     have e1 : kids.take (j + 1) = kids.take j ++ [kids[j]] := List.take_succ_eq_append_getElem hlt
     have e2 : (kids.take (j + 1)).length = j + 1 := by rw [List.length_take]; omega
     have e3 : (kids.take j).length = j := by rw [List.length_take]; omega
     rw [e2, e1]
     refine grwx_app (S := fun _ => True) TmO.keepP HAT.out (Keep.of_below B4.out) (fun _ _ _ _ => trivial) rfl T2.out (fun b hb => ⟨by have := hb.1; simp at this; omega, hb.2, id⟩) (fun _ _ => id) ?_ ?_
     ·rw [e3]; exact own7
     ·rw [e3]; exact gr7)
    have BN : Hid (Below wa.heap.size wa w5) := qh ((BR.out.trans (B4.out.mono hsr)).trans (gr7.keep.below (n := wa.heap.size) (by omega) (fun b hb e => by
     have h1 := OW.out.1.lt b e
     have h2 := HAT.out.ow.2
     rw [cutX_size (by omega)] at h1
     omega)))
    clear own7 gr7
    go_wp2_with fail
    go_roundw
    case rel => exact ⟨j + 1, A7, c7, by omega, by go_num, rfl, qh ⟨GN.out, BN.out⟩⟩
    case measure => simp [intOf]; omega
   ·have e : j = kids.length := by omega
    subst e
    have HV1 := qh ((BR.out.block g1 (lt_of_block V1.out)).trans V1.out)
    have HV2 := qh ((BR.out.block g2 (lt_of_block V2.out)).trans V2.out)
    obtain ⟨c0, c1, c2, c3, _, _, _, _⟩ := term4 HV1.out
    obtain ⟨q0, q1, q2, q3, f0, f1, f2, f3⟩ := term4 HV2.out
    have hy1 := lt_of_block HV1.out
    have hy2 := lt_of_block HV2.out
    have GE : Hid (GrwTm wa.heap.size wr (.slice A' kids.length c') kids) := qh (by have := GR.out; rw [List.take_length] at this; exact this)
    clear GR
    go_wp2_with fail
    obtain ⟨W, hW⟩ : ∃ W, (((wr.setCell ⟨g2, 0, none⟩ (.int .i64 k)).setCell ⟨g2, 1, none⟩ (.int .i64 n)).setCell ⟨g2, 2, none⟩ (.string s)).setCell ⟨g2, 3, none⟩ (.slice A' kids.length c') = W := ⟨_, rfl⟩
    have hts := s4_all HV2.out (.int .i64 k) (.int .i64 n) (.string s) (.slice A' kids.length c')
    have hblk : ∀ b, ¬ b = g2 → W.heap[b]? = wr.heap[b]? := fun b hb => by rw [← hW]; exact s4_blk _ _ _ _ hb
    have hzW : W.heap.size = wr.heap.size := by rw [← hW]; simp
    have hBW : Below w.heap.size w W := by
     rw [← hW]
     have h1 : w.heap.size ≤ g2 := by have := HG2.out; omega
     have h2 := below_then BA.out BR.out
     exact (((h2.setCell (p := ⟨g2, 0, none⟩) h1 _).setCell (p := ⟨g2, 1, none⟩) h1 _).setCell (p := ⟨g2, 2, none⟩) h1 _).setCell (p := ⟨g2, 3, none⟩) h1 _
    rw [hW] at hts ⊢
    obtain ⟨z0, z1, z2, z3, _, _, _, _⟩ := term4 hts
    obtain ⟨_, _, hAc, hc1, hc2⟩ := GE.out.slice
    have hcc1 : kids.length ≤ c' := by injection hAc with _ _ e; omega
    have hcc2 : c' ≤ maxLen := by injection hAc with _ _ e; omega
    refine bodyPost_ret (v := .agg #[.int .i64 k, .int .i64 n, .string s, .slice A' kids.length c']) (by simp [results, Tryz.results49, go_sem, z0, z1, z2, z3]) rfl ⟨k, n, s, A', _, c', rfl, TmO.mk' KK.out NN.out SS.out hcc1 hcc2 ?_, hBW⟩
    have hsz := BA.out.size
    have hg2' := HG2.out
    exact TmRowO.sub (GE.out.rowO.keep fun b hb => hblk b (by have := hb.1; omega)) (fun b hb => ⟨by have := hb.1; omega, by have := hb.2; omega⟩)
def smallB (n : Int) : Bool := decide (97 ≤ n) && decide (n ≤ 122)
def figB (n : Int) : Bool := decide (48 ≤ n) && decide (n ≤ 57)
def okC (c : UInt8) : Bool := smallB c.toNat || figB c.toNat
def wordL (l : List UInt8) : Bool := decide (1 ≤ l.length) && decide (l.length ≤ 12) && smallB ((l[0]?.getD 0).toNat : Int) && l.all okC
def keyL (l : List UInt8) : Bool :=
 l == [97, 110, 100] || l == [99, 97, 108, 108] || l == [101, 108, 115, 101] || l == [103, 108, 111, 98, 97, 108, 115] || l == [105, 102] || l == [108, 111, 99, 107] || l == [108, 111, 99, 107, 115] || l == [110, 111, 116] || l == [112, 114, 111, 99] || l == [115, 107, 105, 112] || l == [115, 112, 97, 119, 110] || l == [117, 110, 108, 111, 99, 107] || l == [119, 104, 105, 108, 101]
def isNameL (l : List UInt8) : Bool := wordL l && !keyL l
theorem all_snoc (s : ByteArray) (k : Nat) (h : k < s.size) : (s.data.toList.take (k + 1)).all okC = ((s.data.toList.take k).all okC && (smallB ((s[k]).toNat : Int) || figB ((s[k]).toNat : Int))) := by
 rw [List.take_succ_eq_append_getElem (by simpa using h), List.all_append]
 simp [okC]
 rfl
theorem first_of (s : ByteArray) (h : 0 < s.size) : s.data.toList[0]?.getD 0 = s[0] := by
 rw [List.getElem?_eq_getElem (by simpa using h)]; rfl
theorem word_none (l : List UInt8) (h : l.length = 0) : wordL l = false := by simp [wordL, h]
theorem word_long (l : List UInt8) (h : 12 < l.length) : wordL l = false := by
 have : decide (l.length ≤ 12) = false := decide_no (by omega)
 simp only [wordL, this, Bool.and_false, Bool.false_and]
theorem word_head (l : List UInt8) (c : UInt8) (e : l[0]?.getD 0 = c) (h : smallB (c.toNat : Int) = false) : wordL l = false := by
 simp only [wordL, e, h, Bool.and_false, Bool.false_and]
theorem word_all (l : List UInt8) (c : UInt8) (e : l[0]?.getD 0 = c) (h : smallB (c.toNat : Int) = true) (h1 : 1 ≤ l.length) (h2 : l.length ≤ 12) : wordL l = l.all okC := by
 simp only [wordL, e, h, h1, h2, decide_true, Bool.true_and]
theorem all_no (s : ByteArray) (k : Nat) (h : k < s.size) (hc : (smallB ((s[k]).toNat : Int) || figB ((s[k]).toNat : Int)) = false) : s.data.toList.all okC = false := by
 have e : s.data.toList = s.data.toList.take (k + 1) ++ s.data.toList.drop (k + 1) := by simp
 rw [e, List.all_append, all_snoc s k h, hc]; simp
theorem impl_isSmall (b : Int) (w : World) : Calls Tryz.prog 97 #[.int .u8 b] w fun e w' => e = .returned (.bool (smallB b)) ∧ w = w' := by
 by_cases h : 97 ≤ b
 ·go_enter Tryz.func97, Tryz.ntmps97
  go_wp2
  go_ret
  exact ⟨ret_bool (by simp only [smallB, h, decide_true, Bool.true_and]), rfl⟩
 ·have h' : decide (97 ≤ b) = false := by simpa using h
  go_enter Tryz.func97, Tryz.ntmps97
  go_wp2
  go_ret
  exact ⟨ret_bool (by simp only [smallB, h', Bool.false_and]), rfl⟩
theorem impl_isFigure (b : Int) (w : World) : Calls Tryz.prog 98 #[.int .u8 b] w fun e w' => e = .returned (.bool (figB b)) ∧ w = w' := by
 by_cases h : 48 ≤ b
 ·go_enter Tryz.func98, Tryz.ntmps98
  go_wp2
  go_ret
  exact ⟨ret_bool (by simp only [figB, h, decide_true, Bool.true_and]), rfl⟩
 ·have h' : decide (48 ≤ b) = false := by simpa using h
  go_enter Tryz.func98, Tryz.ntmps98
  go_wp2
  go_ret
  exact ⟨ret_bool (by simp only [figB, h', Bool.false_and]), rfl⟩
theorem spec_l02Letter (b : Int) (w : World) : Calls Tryz.prog 107 #[.int .u8 b] w fun e w' => e = .returned (.bool (smallB b)) ∧ w = w' := by
 by_cases h : 97 ≤ b
 ·go_enter Tryz.func107, Tryz.ntmps107
  go_wp2
  go_ret
  exact ⟨ret_bool (by simp only [smallB, h, decide_true, Bool.true_and]), rfl⟩
 ·have h' : decide (97 ≤ b) = false := by simpa using h
  go_enter Tryz.func107, Tryz.ntmps107
  go_wp2
  go_ret
  exact ⟨ret_bool (by simp only [smallB, h', Bool.false_and]), rfl⟩
theorem spec_l02Figure (b : Int) (w : World) : Calls Tryz.prog 108 #[.int .u8 b] w fun e w' => e = .returned (.bool (figB b)) ∧ w = w' := by
 by_cases h : 48 ≤ b
 ·go_enter Tryz.func108, Tryz.ntmps108
  go_wp2
  go_ret
  exact ⟨ret_bool (by simp only [figB, h, decide_true, Bool.true_and]), rfl⟩
 ·have h' : decide (48 ≤ b) = false := by simpa using h
  go_enter Tryz.func108, Tryz.ntmps108
  go_wp2
  go_ret
  exact ⟨ret_bool (by simp only [figB, h', Bool.false_and]), rfl⟩
theorem spec_l02Word (s : ByteArray) (w : World) : Calls Tryz.prog 100 #[.string s] w fun e w' => e = .returned (.bool (wordL s.data.toList)) ∧ w = w' := by
 have hl := size_list s
 by_cases h0 : s.size = 0
 ·have F : Hid (wordL s.data.toList = false) := word_none _ (by omega)
  have h1 : ((s.size : Int) == 0) = true := by simp [h0]
  clear h0 hl
  go_enter Tryz.func100, Tryz.ntmps100
  go_wp2_with fail
  go_ret
  exact ⟨ret_bool (by rw [F.out]), rfl⟩
 have h1 : ((s.size : Int) == 0) = false := by simp [h0]
 by_cases h2 : 12 < s.size
 ·have F : Hid (wordL s.data.toList = false) := word_long _ (by omega)
  clear hl
  go_enter Tryz.func100, Tryz.ntmps100
  go_wp2_with fail
  go_ret
  exact ⟨ret_bool (by rw [F.out]), rfl⟩
 have h3 : 0 < s.size := by omega
 have hf := first_of s h3
 by_cases h4 : smallB ((s[0]).toNat : Int) = true
 ·have F : Hid (wordL s.data.toList = s.data.toList.all okC) := word_all _ _ hf h4 (by omega) (by omega)
  clear hl hf
  go_enter Tryz.func100, Tryz.ntmps100
  go_wp2_with (go_at_call 107; refine (spec_l02Letter _ _).mono ?_; rintro e w' ⟨rfl, rfl⟩)
  go_loop [3] (fun i => ∃ k : Nat, k ≤ s.size ∧ i = .int .i64 k ∧ (s.data.toList.take k).all okC = true) (fun i => s.size - (intOf i).toNat)
  case atStart => exact ⟨0, Nat.zero_le _, rfl, rfl⟩
  case round =>
   obtain ⟨k, hk, rfl, hall⟩ := hrel
   have HA := qh hall
   clear hall
   by_cases hlt : k < s.size
   ·have HS := qh (all_snoc s k hlt)
    have HN := qh (all_no s k hlt)
    by_cases c1 : smallB ((s[k]).toNat : Int) = true
    ·go_wp2_with (go_at_call 107; refine (spec_l02Letter _ _).mono ?_; rintro e w' ⟨rfl, rfl⟩)
     go_round
     case rel => exact ⟨k + 1, by omega, by go_num, by rw [HS.out, HA.out, c1]; rfl⟩
     case measure => simp [intOf]; omega
    ·have c1' : smallB ((s[k]).toNat : Int) = false := by simpa using c1
     by_cases c2 : figB ((s[k]).toNat : Int) = true
     ·go_wp2_with (first | (go_at_call 107; refine (spec_l02Letter _ _).mono ?_; rintro e w' ⟨rfl, rfl⟩) | (go_at_call 108; refine (spec_l02Figure _ _).mono ?_; rintro e w' ⟨rfl, rfl⟩))
      go_round
      case rel => exact ⟨k + 1, by omega, by go_num, by rw [HS.out, HA.out, c2]; simp⟩
      case measure => simp [intOf]; omega
     ·have c2' : figB ((s[k]).toNat : Int) = false := by simpa using c2
      go_wp2_with (first | (go_at_call 107; refine (spec_l02Letter _ _).mono ?_; rintro e w' ⟨rfl, rfl⟩) | (go_at_call 108; refine (spec_l02Figure _ _).mono ?_; rintro e w' ⟨rfl, rfl⟩))
      go_ret
      exact ⟨ret_bool (by rw [F.out, HN.out (by rw [c1', c2']; rfl)]), rfl⟩
   ·go_wp2_with fail
    go_ret
    exact ⟨ret_bool (by rw [F.out, ← HA.out, List.take_of_length_le (by simp; omega)]), rfl⟩
 ·have h4' : smallB ((s[0]).toNat : Int) = false := by simpa using h4
  have F : Hid (wordL s.data.toList = false) := word_head _ _ hf h4'
  clear hl hf
  go_enter Tryz.func100, Tryz.ntmps100
  go_wp2_with (go_at_call 107; refine (spec_l02Letter _ _).mono ?_; rintro e w' ⟨rfl, rfl⟩)
  go_ret
  exact ⟨ret_bool (by rw [F.out]), rfl⟩
theorem spec_IsName (s : ByteArray) (w : World) : Calls Tryz.prog 81 #[.string s] w fun e w' => e = .returned (.bool (isNameL s.data.toList)) ∧ w = w' := by
 have hd := qh (Lib.toList_data s)
 go_enter Tryz.func81, Tryz.ntmps81
 go_wp2_with (go_at_call 100; refine (spec_l02Word _ _).mono ?_; rintro e w' ⟨rfl, rfl⟩)
 all_goals go_ret
 all_goals exact ⟨ret_bool (by rw [← hd.out]; simp_all [isNameL, keyL]), rfl⟩
theorem not_name (l : List UInt8) (h : wordL l = false) : isNameL l = false := by simp [isNameL, h]
theorem name_of (l m : List UInt8) (e : l = m) (h : wordL m = true) : isNameL m = !keyL l := by subst e; simp [isNameL, h]
theorem impl_IsName (s : ByteArray) (w : World) : Calls Tryz.prog 73 #[.string s] w fun e w' => e = .returned (.bool (isNameL s.data.toList)) ∧ w = w' := by
 have hl := size_list s
 by_cases h0 : s.size < 1
 ·have F : Hid (isNameL s.data.toList = false) := not_name _ (word_none _ (by omega))
  clear hl
  go_enter Tryz.func73, Tryz.ntmps73
  go_wp2_with fail
  go_ret
  exact ⟨ret_bool (by rw [F.out]), rfl⟩
 by_cases h2 : 12 < s.size
 ·have F : Hid (isNameL s.data.toList = false) := not_name _ (word_long _ (by omega))
  clear hl
  go_enter Tryz.func73, Tryz.ntmps73
  go_wp2_with fail
  go_ret
  exact ⟨ret_bool (by rw [F.out]), rfl⟩
 have h3 : 0 < s.size := by omega
 have hf := first_of s h3
 by_cases h4 : smallB ((s[0]).toNat : Int) = true
 ·have F : Hid (wordL s.data.toList = s.data.toList.all okC) := word_all _ _ hf h4 (by omega) (by omega)
  have hd := qh (Lib.toList_data s)
  clear hl hf
  go_enter Tryz.func73, Tryz.ntmps73
  go_wp2_with (go_at_call 97; refine (impl_isSmall _ _).mono ?_; rintro e w' ⟨rfl, rfl⟩)
  go_loop [3] (fun i => ∃ k : Nat, k ≤ s.size ∧ i = .int .i64 k ∧ (s.data.toList.take k).all okC = true) (fun i => s.size - (intOf i).toNat)
  case atStart => exact ⟨0, Nat.zero_le _, rfl, rfl⟩
  case round =>
   obtain ⟨k, hk, rfl, hall⟩ := hrel
   have HA := qh hall
   clear hall
   by_cases hlt : k < s.size
   ·have HS := qh (all_snoc s k hlt)
    have HN := qh (all_no s k hlt)
    by_cases c1 : smallB ((s[k]).toNat : Int) = true
    ·go_wp2_with (go_at_call 97; refine (impl_isSmall _ _).mono ?_; rintro e w' ⟨rfl, rfl⟩)
     go_round
     case rel => exact ⟨k + 1, by omega, by go_num, by rw [HS.out, HA.out, c1]; rfl⟩
     case measure => simp [intOf]; omega
    ·have c1' : smallB ((s[k]).toNat : Int) = false := by simpa using c1
     by_cases c2 : figB ((s[k]).toNat : Int) = true
     ·go_wp2_with (first | (go_at_call 97; refine (impl_isSmall _ _).mono ?_; rintro e w' ⟨rfl, rfl⟩) | (go_at_call 98; refine (impl_isFigure _ _).mono ?_; rintro e w' ⟨rfl, rfl⟩))
      go_round
      case rel => exact ⟨k + 1, by omega, by go_num, by rw [HS.out, HA.out, c2]; simp⟩
      case measure => simp [intOf]; omega
     ·have c2' : figB ((s[k]).toNat : Int) = false := by simpa using c2
      go_wp2_with (first | (go_at_call 97; refine (impl_isSmall _ _).mono ?_; rintro e w' ⟨rfl, rfl⟩) | (go_at_call 98; refine (impl_isFigure _ _).mono ?_; rintro e w' ⟨rfl, rfl⟩))
      go_ret
      exact ⟨ret_bool (by rw [not_name _ (by rw [F.out, HN.out (by rw [c1', c2']; rfl)])]), rfl⟩
   ·have W : Hid (wordL s.data.toList = true) := qh (F.out.trans (by have h := HA.out; rw [List.take_of_length_le (by simp; omega)] at h; exact h))
    have G := qh (name_of s.toList _ hd.out W.out)
    clear W F HA hd
    go_wp2_with fail
    all_goals go_ret
    all_goals exact ⟨ret_bool (by rw [G.out]; simp_all [keyL]), rfl⟩
 ·have h4' : smallB ((s[0]).toNat : Int) = false := by simpa using h4
  have F : Hid (isNameL s.data.toList = false) := not_name _ (word_head _ _ hf h4')
  clear hl hf
  go_enter Tryz.func73, Tryz.ntmps73
  go_wp2_with (go_at_call 97; refine (impl_isSmall _ _).mono ?_; rintro e w' ⟨rfl, rfl⟩)
  go_ret
  exact ⟨ret_bool (by rw [F.out]), rfl⟩
end Go.Proofs.YtnmblfonmfjoeaaGreatDoor
