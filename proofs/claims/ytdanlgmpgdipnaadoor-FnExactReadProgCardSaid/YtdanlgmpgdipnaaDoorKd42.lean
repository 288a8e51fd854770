/- Several texts in one: RsSt2. -/
import Derived.Test.YtdanlgmpgdipnaaDoorKd37
namespace Go.Proofs.YtdanlgmpgdipnaaDoor
open Go.RowKit
set_option linter.unusedVariables false


theorem kdAt_two {K : Int} (h : 2 ≤ K) : kdAt K 2 = 0 := by unfold kdAt; rw [if_neg (by omega)]
theorem kdAt_nine {K : Int} (h : K ≤ 8) : kdAt K 9 = K := by unfold kdAt; rw [if_pos (by omega)]
set_option maxHeartbeats 6400000 in
set_option maxRecDepth 100000 in
theorem rs_stmt_word (rec : Nat → Nat → Got (List St × Nat)) (w : World) (rb : Nat) (A : Option Addr) (c n i : Nat) (L : List Sg) (left : Nat) (hs : SgsOk L) (hA : ∀ b o, A = some ⟨b, o, none⟩ → b < w.heap.size) (room : Int) (hl : left + 1 ≤ 60) (h : RsAt w rb A c n i L 0 0 ((left + 1 : Nat) : Int)) (k : Int) (hw : wordOf L i = k) (hk : k = 4 ∨ k = 5 ∨ k = 6 ∨ k = 7) :
    Calls Tryd.prog 28 #[.pointer (some ⟨rb, 0, none⟩), .int .i64 room] w fun e w' => GsS1 w w' rb A c n L (oneG L n rec k i left) e := by
  have hk9 : 2 ≤ k ∧ k ≤ 8 := by omega
  obtain ⟨lf, hlf⟩ : ∃ lf : Int, ((left + 1 : Nat) : Int) = lf := ⟨_, rfl⟩
  rw [hlf] at h
  have HLF : Hid (lf - 1 = (left : Int)) := Lib.hid (by omega)
  have hlf0 : (lf == 0) = false := beq_eq_false_iff_ne.2 (by omega)
  have hlf1 : 1 ≤ lf := by omega
  have hlf2 : lf ≤ 60 := by omega
  clear hlf
  have HWK := Lib.hid hw
  have HTX := Lib.hid (wd_word hk9.1 hw).1
  have HNM := Lib.hid (wd_word hk9.1 hw).2.2
  have hlt := wordOf_lt (L := L) (i := i) (by rw [hw]; omega)
  have HK := Lib.hid hk
  have HI : Hid (decide (tx L i = ⟨#[105, 102]⟩) = false) := Lib.hid (decide_eq_false (fun e => by have := word_wd (k := 2) (by decide) e; omega))
  have HW : Hid (decide (tx L i = ⟨#[119, 104, 105, 108, 101]⟩) = false) := Lib.hid (decide_eq_false (fun e => by have := word_wd (k := 3) (by decide) e; omega))
  have e8 : (k == 8) = false := beq_eq_false_iff_ne.2 (by omega)
  have e82 : (k != 8) = true := by rw [bne_iff_ne]; omega
  clear hw hk
  have RR := Lib.hid h
  have HS := Lib.hid hs
  have HA := Lib.hid hA
  have hrb := h.lt
  have hi6 := h.hi
  have hL6 := h.hL
  clear h hs hA
  go_enter Tryd.func28, Tryd.ntmps28
  go_wp2_with fail
  have BA : Hid (Below w.heap.size w ((w.alloc (.cells #[.int .i64 0, .string ByteArray.empty, .int .i64 0, .int .i64 0, .string ByteArray.empty, .slice none 0 0, .slice none 0 0, .slice none 0 0] 67)).alloc (.cells #[.int .i64 0, .string ⟨#[]⟩, .int .i64 0, .int .i64 0, .string ⟨#[]⟩, .slice none 0 0, .slice none 0 0, .slice none 0 0] 67))) := Lib.hid (Below.alloc (Below.alloc (Below.refl _ _) (Nat.le_refl _) _) (by simp) _)
  have V4 : Hid (((w.alloc (.cells #[.int .i64 0, .string ByteArray.empty, .int .i64 0, .int .i64 0, .string ByteArray.empty, .slice none 0 0, .slice none 0 0, .slice none 0 0] 67)).alloc (.cells #[.int .i64 0, .string ⟨#[]⟩, .int .i64 0, .int .i64 0, .string ⟨#[]⟩, .slice none 0 0, .slice none 0 0, .slice none 0 0] 67)).heap[w.heap.size]? = some (.cells #[.int .i64 0, .string ⟨#[]⟩, .int .i64 0, .int .i64 0, .string ⟨#[]⟩, .slice none 0 0, .slice none 0 0, .slice none 0 0] 67 (0, 0))) := Lib.hid ((heap_alloc_lt (by simp)).trans (heap_alloc_new _ _))
  have V5 : Hid (((w.alloc (.cells #[.int .i64 0, .string ByteArray.empty, .int .i64 0, .int .i64 0, .string ByteArray.empty, .slice none 0 0, .slice none 0 0, .slice none 0 0] 67)).alloc (.cells #[.int .i64 0, .string ⟨#[]⟩, .int .i64 0, .int .i64 0, .string ⟨#[]⟩, .slice none 0 0, .slice none 0 0, .slice none 0 0] 67)).heap[w.heap.size + 1]? = some (.cells #[.int .i64 0, .string ⟨#[]⟩, .int .i64 0, .int .i64 0, .string ⟨#[]⟩, .slice none 0 0, .slice none 0 0, .slice none 0 0] 67 (0, 0))) := Lib.hid (by have := heap_alloc_new (w.alloc (.cells #[.int .i64 0, .string ByteArray.empty, .int .i64 0, .int .i64 0, .string ByteArray.empty, .slice none 0 0, .slice none 0 0, .slice none 0 0] 67)) (.cells #[.int .i64 0, .string ⟨#[]⟩, .int .i64 0, .int .i64 0, .string ⟨#[]⟩, .slice none 0 0, .slice none 0 0, .slice none 0 0] 67); simpa using this)
  obtain ⟨wa, hwa⟩ : ∃ wa, ((w.alloc (.cells #[.int .i64 0, .string ByteArray.empty, .int .i64 0, .int .i64 0, .string ByteArray.empty, .slice none 0 0, .slice none 0 0, .slice none 0 0] 67)).alloc (.cells #[.int .i64 0, .string ⟨#[]⟩, .int .i64 0, .int .i64 0, .string ⟨#[]⟩, .slice none 0 0, .slice none 0 0, .slice none 0 0] 67)) = wa := ⟨_, rfl⟩
  have hza : wa.heap.size = w.heap.size + 2 := by rw [← hwa]; simp
  have hwa2 : ((w.alloc (.cells #[.int .i64 0, .string ⟨#[]⟩, .int .i64 0, .int .i64 0, .string ⟨#[]⟩, .slice none 0 0, .slice none 0 0, .slice none 0 0] 67)).alloc (.cells #[.int .i64 0, .string ⟨#[]⟩, .int .i64 0, .int .i64 0, .string ⟨#[]⟩, .slice none 0 0, .slice none 0 0, .slice none 0 0] 67)) = wa := hwa
  have hwa3 : ((w.alloc (.cells #[.int .i64 0, .string ByteArray.empty, .int .i64 0, .int .i64 0, .string ByteArray.empty, .slice none 0 0, .slice none 0 0, .slice none 0 0] 67)).alloc (.cells #[.int .i64 0, .string ByteArray.empty, .int .i64 0, .int .i64 0, .string ByteArray.empty, .slice none 0 0, .slice none 0 0, .slice none 0 0] 67)) = wa := hwa
  (first | rw [hwa] | rw [hwa2] | rw [hwa3])
  rw [hwa] at BA V4 V5
  clear hwa hwa2 hwa3
  replace RR := Lib.hid (RR.out.below BA.out)
  have KK : Hid (KeepR rb w wa) := Lib.hid (KeepR.of_below' BA.out)
  obtain ⟨g4, hg4⟩ : ∃ g, w.heap.size = g := ⟨_, rfl⟩
  obtain ⟨g5, hg5⟩ : ∃ g, w.heap.size + 1 = g := ⟨_, rfl⟩
  have HG4 := Lib.hid hg4
  have HG5 := Lib.hid hg5
  have hn45 : ¬ g4 = g5 := by omega
  have hn54 : ¬ g5 = g4 := by omega
  have hn4r : ¬ g4 = rb := by omega
  have hnr4 : ¬ rb = g4 := by omega
  have hn5r : ¬ g5 = rb := by omega
  have hnr5 : ¬ rb = g5 := by omega
  have HA4 : Hid (∀ b o, A = some ⟨b, o, none⟩ → b ≠ g4) := Lib.hid (fun b o e => by have := HA.out b o e; omega)
  have HA5 : Hid (∀ b o, A = some ⟨b, o, none⟩ → b ≠ g5) := Lib.hid (fun b o e => by have := HA.out b o e; omega)
  rw [hg4] at V4
  rw [hg5] at V5
  (try rw [hg5])
  (try rw [hg4])
  clear hg4 hg5 BA
  refine (rs_is ⟨#[105, 102]⟩ _ rb A c n i L 0 0 lf RR.out (by decide)).mono ?_
  rintro e u1 ⟨rfl, bu1⟩
  rw [kd1, HI.out]
  replace RR := Lib.hid (RR.out.below bu1)
  replace KK := Lib.hid (KeepR.trans' KK.out (KeepR.of_below' bu1))
  replace V4 := Lib.hid ((bu1.block g4 (lt_of_block V4.out)).trans V4.out)
  replace V5 := Lib.hid ((bu1.block g5 (lt_of_block V5.out)).trans V5.out)
  clear bu1
  go_wp2_with fail
  refine (rs_is ⟨#[119, 104, 105, 108, 101]⟩ _ rb A c n i L 0 0 lf RR.out (by decide)).mono ?_
  rintro e u2 ⟨rfl, bu2⟩
  rw [kd1, HW.out]
  replace RR := Lib.hid (RR.out.below bu2)
  replace KK := Lib.hid (KeepR.trans' KK.out (KeepR.of_below' bu2))
  replace V4 := Lib.hid ((bu2.block g4 (lt_of_block V4.out)).trans V4.out)
  replace V5 := Lib.hid ((bu2.block g5 (lt_of_block V5.out)).trans V5.out)
  clear bu2
  obtain ⟨_, p1, _, p3, _, p5⟩ := RR.out.cs
  have fr := RR.out.fz 5
  have hrl := RR.out.lt
  replace RR := Lib.hid (RR.out.setl (lf - 1))
  replace KK := Lib.hid (KeepR.setr (o := 5) KK.out (.int .i64 (lf - 1)))
  replace V4 := Lib.hid ((Below.heap_setCell u2 ⟨rb, 5, none⟩ (.int .i64 (lf - 1)) g4 hn4r).trans V4.out)
  replace V5 := Lib.hid ((Below.heap_setCell u2 ⟨rb, 5, none⟩ (.int .i64 (lf - 1)) g5 hn5r).trans V5.out)
  go_wp2_with fail
  obtain ⟨u3, hu3⟩ : ∃ x, (u2.setCell ⟨rb, 5, none⟩ (.int .i64 (lf - 1))) = x := ⟨_, rfl⟩
  rw [hu3] at RR KK V4 V5 ⊢
  clear hu3 p1 p3 p5 fr hrl
  replace RR : Hid (RsAt u3 rb A c n i L 0 0 (left : Int)) := Lib.hid (by rw [← HLF.out]; exact RR.out)
  refine (rs_named _ rb A c n i L 0 0 (left : Int) RR.out HS.out).mono ?_
  rintro e u4 ⟨rfl, bu4⟩
  rw [kd2, HNM.out]
  replace RR := Lib.hid (RR.out.below bu4)
  replace KK := Lib.hid (KeepR.trans' KK.out (KeepR.of_below' bu4))
  replace V4 := Lib.hid ((bu4.block g4 (lt_of_block V4.out)).trans V4.out)
  replace V5 := Lib.hid ((bu4.block g5 (lt_of_block V5.out)).trans V5.out)
  clear bu4
  go_wp2_with fail
  go_loopw [7] (fun iv wr => ∃ j : Nat, 2 ≤ j ∧ j ≤ 9 ∧ iv = .int .i64 (j : Int) ∧ Hid (KeepR g5 u4 wr ∧ wr.heap[g5]? = some (.cells #[.int .i64 (kdAt (k : Int) j), .string ⟨#[]⟩, .int .i64 0, .int .i64 0, .string ⟨#[]⟩, .slice none 0 0, .slice none 0 0, .slice none 0 0] 67 (0, 0)))) (fun iv _ => 10 - (intOf iv).toNat)
  case atStart => exact ⟨2, Nat.le_refl _, by omega, rfl, Lib.hid ⟨Keep.refl _ _, by rw [kdAt_two (by omega)]; exact V5.out⟩⟩
  case round =>
    rename World => wr
    obtain ⟨jj, hj2, hj9, rfl, HB⟩ := hrel
    by_cases hlt' : jj < 9
    · have h0 : (jj : Int) ≤ 8 := by omega
      have HKJ : Hid ((jj : Int) = 2 ∨ (jj : Int) = 3 ∨ (jj : Int) = 4 ∨ (jj : Int) = 5 ∨ (jj : Int) = 6 ∨ (jj : Int) = 7 ∨ (jj : Int) = 8) := Lib.hid (by omega)
      go_wp2_with fail
      refine (spec_wordK (jj : Int) HKJ.out _).mono ?_
      rintro e wa ⟨rfl, ba⟩
      have HBa : Hid (KeepR g5 u4 wa ∧ wa.heap[g5]? = some (.cells #[.int .i64 (kdAt (k : Int) jj), .string ⟨#[]⟩, .int .i64 0, .int .i64 0, .string ⟨#[]⟩, .slice none 0 0, .slice none 0 0, .slice none 0 0] 67 (0, 0))) := Lib.hid ⟨HB.out.1.trans' (KeepR.of_below' ba), (ba.block g5 (lt_of_block HB.out.2)).trans HB.out.2⟩
      clear ba
      go_wp2_with fail
      refine (rs_is (wdB (jj : Int)) _ rb A c n i L 0 0 (left : Int) (RR.out.keepS HBa.out.1 (by show rb ≠ g5; exact hnr5) (fun b' o' e => ⟨HA5.out b' o' e, Nat.lt_of_lt_of_le (HA.out b' o' e) KK.out.size⟩)) (wdB_ne _)).mono ?_
      rintro e wb ⟨rfl, bb⟩
      have HBb : Hid (KeepR g5 u4 wb ∧ wb.heap[g5]? = some (.cells #[.int .i64 (kdAt (k : Int) jj), .string ⟨#[]⟩, .int .i64 0, .int .i64 0, .string ⟨#[]⟩, .slice none 0 0, .slice none 0 0, .slice none 0 0] 67 (0, 0))) := Lib.hid ⟨HBa.out.1.trans' (KeepR.of_below' bb), (bb.block g5 (lt_of_block HBa.out.2)).trans HBa.out.2⟩
      clear bb
      by_cases hyes : tx L i = wdB (jj : Int)
      · rw [show (decide ((0 : Int) = 0) && decide (tx L i = wdB (jj : Int))) = true from by rw [decide_eq_true hyes]; rfl]
        have hkd : (k : Int) = (jj : Int) := by
          have h1 := word_wd (L := L) (k := (jj : Int)) ⟨by omega, by omega⟩ hyes
          rw [HWK.out] at h1
          exact h1
        obtain ⟨⟨c0, c1, c2, c3, c4, c5, c6, c7⟩, f0, f1, f2, f3, f4, f5, f6, f7⟩ := cells8R HBb.out.2
        have hzb := lt_of_block HBb.out.2
        go_wp2_with fail
        go_roundw
        case rel => exact ⟨jj + 1, by omega, by omega, by go_num, Lib.hid ⟨HBb.out.1.setCell (p := ⟨g5, 0, none⟩) (by simp) _, by rw [kdAt_hit hkd]; exact s8_0 HBb.out.2 _⟩⟩
        case measure => simp [intOf]; omega
      · rw [show (decide ((0 : Int) = 0) && decide (tx L i = wdB (jj : Int))) = false from by rw [decide_eq_false hyes]; rfl]
        have hkd : (k : Int) ≠ (jj : Int) := fun e => hyes (e ▸ HTX.out)
        go_wp2_with fail
        go_roundw
        case rel => exact ⟨jj + 1, by omega, by omega, by go_num, Lib.hid ⟨HBb.out.1, by rw [kdAt_step hkd]; exact HBb.out.2⟩⟩
        case measure => simp [intOf]; omega
    have h0 : ¬ (jj : Int) ≤ 8 := by omega
    obtain rfl : jj = 9 := by omega
    replace RR := Lib.hid (RR.out.keepS HB.out.1 (by show rb ≠ g5; exact hnr5) (fun b' o' e => ⟨HA5.out b' o' e, Nat.lt_of_lt_of_le (HA.out b' o' e) KK.out.size⟩))
    replace V4 := Lib.hid ((HB.out.1.block g4 (lt_of_block V4.out) (by show g4 ≠ g5; exact hn45)).trans V4.out)
    replace KK : Hid (KeepR rb w wr) := Lib.hid (KK.out.trans HB.out.1 (fun b hb _ => by show b ≠ g5; have := HG5.out; omega))
    replace V5 : Hid (wr.heap[g5]? = some (.cells #[.int .i64 k, .string ⟨#[]⟩, .int .i64 0, .int .i64 0, .string ⟨#[]⟩, .slice none 0 0, .slice none 0 0, .slice none 0 0] 67 (0, 0))) := Lib.hid (by have h := HB.out.2; rw [kdAt_nine (by omega)] at h; exact h)
    clear HB
    obtain ⟨⟨c0, c1, c2, c3, c4, c5, c6, c7⟩, f0, f1, f2, f3, f4, f5, f6, f7⟩ := cells8R V5.out
    have hz5 := lt_of_block V5.out
    obtain ⟨_, p1, _, p3, _, p5⟩ := RR.out.cs
    have fr := RR.out.fz 1
    have hrl := RR.out.lt
    replace RR := Lib.hid (RR.out.seti (by omega))
    replace KK := Lib.hid (KeepR.setr (o := 1) KK.out (.int .i64 ((i : Int) + 1)))
    replace V4 := Lib.hid ((Below.heap_setCell wr ⟨rb, 1, none⟩ (.int .i64 ((i : Int) + 1)) g4 hn4r).trans V4.out)
    replace V5 := Lib.hid ((Below.heap_setCell wr ⟨rb, 1, none⟩ (.int .i64 ((i : Int) + 1)) g5 hn5r).trans V5.out)
    go_wp2_with fail
    obtain ⟨u5, hu5⟩ : ∃ x, (wr.setCell ⟨rb, 1, none⟩ (.int .i64 ((i : Int) + 1))) = x := ⟨_, rfl⟩
    rw [hu5] at RR KK V4 V5 ⊢
    clear hu5 p1 p3 p5 fr hrl
    clear c0 c1 c2 c3 c4 c5 c6 c7 f0 f1 f2 f3 f4 f5 f6 f7 hz5
    refine (rs_name _ rb A c n (i + 1) L 0 (left : Int) RR.out HS.out).mono ?_
    rintro e u6 ⟨ku6, hret⟩
    rcases hret with ⟨hn, rfl, ru6⟩ | ⟨hn, rfl, ru6⟩
    case inr =>
      have HF : Hid (¬ (3 : Int) = 0) := Lib.hid (by decide)
      have GG : Hid (oneG L n rec k i left = .bad 3 (posAt L n (i + 1))) := Lib.hid (by rw [oneG_word HK.out, if_neg (by rw [hn]; decide)])
      clear hn
      replace RR := Lib.hid ru6
      replace KK := Lib.hid (KeepR.trans' KK.out ku6)
      replace V4 := Lib.hid ((ku6.block g4 (lt_of_block V4.out) hn4r).trans V4.out)
      replace V5 := Lib.hid ((ku6.block g5 (lt_of_block V5.out) hn5r).trans V5.out)
      clear ku6 ru6
      obtain ⟨⟨c0, c1, c2, c3, c4, c5, c6, c7⟩, f0, f1, f2, f3, f4, f5, f6, f7⟩ := cells8R V5.out
      have hz5 := lt_of_block V5.out
      replace RR := Lib.hid (RR.out.setg hn5r HA5.out 1 (.string ⟨#[]⟩))
      replace KK := Lib.hid (KeepR.setg (g := g5) (o := 1) KK.out (by have := HG5.out; omega) (.string ⟨#[]⟩))
      replace V4 := Lib.hid ((Below.heap_setCell u6 ⟨g5, 1, none⟩ (.string ⟨#[]⟩) g4 hn45).trans V4.out)
      replace V5 := Lib.hid (s8_1 V5.out (.string ⟨#[]⟩))
      go_wp2_with fail
      obtain ⟨u8, hu8⟩ : ∃ x, (u6.setCell ⟨g5, 1, none⟩ (.string ⟨#[]⟩)) = x := ⟨_, rfl⟩
      rw [hu8] at RR KK V4 V5 ⊢
      clear hu8 c0 c1 c2 c3 c4 c5 c6 c7 f0 f1 f2 f3 f4 f5 f6 f7 hz5
      refine (rs_take2 ⟨#[59]⟩ _ rb A c n (i + 1) L 3 (posAt L n (i + 1)) (left : Int) RR.out (by decide) HF.out).mono ?_
      rintro e u7 ⟨rfl, bu7⟩
      replace RR := Lib.hid (RR.out.below bu7)
      replace KK := Lib.hid (KeepR.trans' KK.out (KeepR.of_below' bu7))
      replace V4 := Lib.hid ((bu7.block g4 (lt_of_block V4.out)).trans V4.out)
      replace V5 := Lib.hid ((bu7.block g5 (lt_of_block V5.out)).trans V5.out)
      clear bu7
      obtain ⟨⟨c0, c1, c2, c3, c4, c5, c6, c7⟩, f0, f1, f2, f3, f4, f5, f6, f7⟩ := cells8R V4.out
      obtain ⟨⟨a0, a1, a2, a3, a4, a5, a6, a7⟩, _⟩ := cells8R V5.out
      have hz4 := lt_of_block V4.out
      have hz5 := lt_of_block V5.out
      go_wp2_with fail
      refine bodyPost_ret (v := .agg #[.int .i64 k, .string ⟨#[]⟩, .int .i64 0, .int .i64 0, .string ⟨#[]⟩, .slice none 0 0, .slice none 0 0, .slice none 0 0]) (by simp [results, Tryd.results28, go_sem, c0, c1, c2, c3, c4, c5, c6, c7]) rfl ?_
      rw [GG.out]
      exact finRB ⟨k, ⟨#[]⟩, 0, 0, ⟨#[]⟩, none, 0, 0, none, 0, 0, none, 0, 0⟩ HG4.out KK.out RR.out HF.out HA4.out hn4r
    have HSZ := Lib.hid (name_sz hn)
    have hlt2 := there_n hn
    obtain ⟨T, hT⟩ : ∃ T, tx L (i + 1) = T := ⟨_, rfl⟩
    have GA : Hid (oneG L n rec k i left = (Go.Proofs.YtdanlgmpgdipnaaDoor.tk L n ⟨#[59]⟩ (i + 1 + 1)).bind fun _ i1 => .ok (.mk k T zTm [] [], left) i1) := Lib.hid (by have h := oneG_word (L := L) (n := n) (rec := rec) (i := i) (left := left) HK.out; rw [if_pos hn, hT] at h; exact h)
    rw [hT] at HSZ ⊢
    clear hT hn
    replace RR := Lib.hid ru6
    replace KK := Lib.hid (KeepR.trans' KK.out ku6)
    replace V4 := Lib.hid ((ku6.block g4 (lt_of_block V4.out) hn4r).trans V4.out)
    replace V5 := Lib.hid ((ku6.block g5 (lt_of_block V5.out) hn5r).trans V5.out)
    clear ku6 ru6
    obtain ⟨⟨c0, c1, c2, c3, c4, c5, c6, c7⟩, f0, f1, f2, f3, f4, f5, f6, f7⟩ := cells8R V5.out
    have hz5 := lt_of_block V5.out
    replace RR := Lib.hid (RR.out.setg hn5r HA5.out 1 (.string T))
    replace KK := Lib.hid (KeepR.setg (g := g5) (o := 1) KK.out (by have := HG5.out; omega) (.string T))
    replace V4 := Lib.hid ((Below.heap_setCell u6 ⟨g5, 1, none⟩ (.string T) g4 hn45).trans V4.out)
    replace V5 := Lib.hid (s8_1 V5.out (.string T))
    go_wp2_with fail
    obtain ⟨u9, hu9⟩ : ∃ x, (u6.setCell ⟨g5, 1, none⟩ (.string T)) = x := ⟨_, rfl⟩
    rw [hu9] at RR KK V4 V5 ⊢
    clear hu9 c0 c1 c2 c3 c4 c5 c6 c7 f0 f1 f2 f3 f4 f5 f6 f7 hz5
    refine (rs_take ⟨#[59]⟩ _ rb A c n (i + 1 + 1) L 0 (left : Int) RR.out (by decide)).mono ?_
    rintro e u10 ⟨rfl, ku10, hret⟩
    rcases hret with ⟨ht, ru10⟩ | ⟨ht, ru10⟩
    case inr =>
      have HF : Hid (¬ (3 : Int) = 0) := Lib.hid (by decide)
      have GG : Hid (oneG L n rec k i left = .bad 3 (posAt L n (i + 1 + 1))) := Lib.hid (by rw [GA.out, tk_bad ht]; rfl)
      clear ht
      replace RR := Lib.hid ru10
      replace KK := Lib.hid (KeepR.trans' KK.out ku10)
      replace V4 := Lib.hid ((ku10.block g4 (lt_of_block V4.out) hn4r).trans V4.out)
      replace V5 := Lib.hid ((ku10.block g5 (lt_of_block V5.out) hn5r).trans V5.out)
      clear ku10 ru10
      obtain ⟨⟨c0, c1, c2, c3, c4, c5, c6, c7⟩, f0, f1, f2, f3, f4, f5, f6, f7⟩ := cells8R V4.out
      obtain ⟨⟨a0, a1, a2, a3, a4, a5, a6, a7⟩, _⟩ := cells8R V5.out
      have hz4 := lt_of_block V4.out
      have hz5 := lt_of_block V5.out
      go_wp2_with fail
      refine bodyPost_ret (v := .agg #[.int .i64 k, .string T, .int .i64 0, .int .i64 0, .string ⟨#[]⟩, .slice none 0 0, .slice none 0 0, .slice none 0 0]) (by simp [results, Tryd.results28, go_sem, c0, c1, c2, c3, c4, c5, c6, c7]) rfl ?_
      rw [GG.out]
      exact finRB ⟨k, T, 0, 0, ⟨#[]⟩, none, 0, 0, none, 0, 0, none, 0, 0⟩ HG4.out KK.out RR.out HF.out HA4.out hn4r
    have GG : Hid (oneG L n rec k i left = .ok (.mk k T zTm [] [], left) (i + 1 + 1 + 1)) := Lib.hid (by rw [GA.out, tk_ok ht, bind_ok])
    clear ht GA
    replace RR := Lib.hid ru10
    replace KK := Lib.hid (KeepR.trans' KK.out ku10)
    replace V4 := Lib.hid ((ku10.block g4 (lt_of_block V4.out) hn4r).trans V4.out)
    replace V5 := Lib.hid ((ku10.block g5 (lt_of_block V5.out) hn5r).trans V5.out)
    clear ku10 ru10
    obtain ⟨⟨c0, c1, c2, c3, c4, c5, c6, c7⟩, f0, f1, f2, f3, f4, f5, f6, f7⟩ := cells8R V4.out
    obtain ⟨⟨a0, a1, a2, a3, a4, a5, a6, a7⟩, _⟩ := cells8R V5.out
    have hz4 := lt_of_block V4.out
    have hz5 := lt_of_block V5.out
    go_wp2_with fail
    refine bodyPost_ret (v := .agg #[.int .i64 k, .string T, .int .i64 0, .int .i64 0, .string ⟨#[]⟩, .slice none 0 0, .slice none 0 0, .slice none 0 0]) (by simp [results, Tryd.results28, go_sem, c0, c1, c2, c3, c4, c5, c6, c7]) rfl ?_
    rw [GG.out]
    exact finRO (F := fun _ => False) ⟨k, T, 0, 0, ⟨#[]⟩, none, 0, 0, none, 0, 0, none, 0, 0⟩ HG4.out KK.out RR.out HA4.out hn4r (stO_flatR (by have := HK.out; unfold i64in; omega) HSZ.out zTmO (fun _ h => h)) (fun _ h => h.elim)
set_option maxHeartbeats 6400000 in
set_option maxRecDepth 100000 in
theorem rs_stmt_skip (rec : Nat → Nat → Got (List St × Nat)) (w : World) (rb : Nat) (A : Option Addr) (c n i : Nat) (L : List Sg) (left : Nat) (hs : SgsOk L) (hA : ∀ b o, A = some ⟨b, o, none⟩ → b < w.heap.size) (room : Int) (hl : left + 1 ≤ 60) (h : RsAt w rb A c n i L 0 0 ((left + 1 : Nat) : Int)) (hw : wordOf L i = 8) :
    Calls Tryd.prog 28 #[.pointer (some ⟨rb, 0, none⟩), .int .i64 room] w fun e w' => GsS1 w w' rb A c n L (oneG L n rec 8 i left) e := by
  obtain ⟨lf, hlf⟩ : ∃ lf : Int, ((left + 1 : Nat) : Int) = lf := ⟨_, rfl⟩
  rw [hlf] at h
  have HLF : Hid (lf - 1 = (left : Int)) := Lib.hid (by omega)
  have hlf0 : (lf == 0) = false := beq_eq_false_iff_ne.2 (by omega)
  have hlf1 : 1 ≤ lf := by omega
  have hlf2 : lf ≤ 60 := by omega
  clear hlf
  have HWK := Lib.hid hw
  have HTX := Lib.hid (wd_word (by decide) hw).1
  have HNM := Lib.hid (wd_word (by decide) hw).2.2
  have hlt := wordOf_lt (L := L) (i := i) (by rw [hw]; omega)
  have HI : Hid (decide (tx L i = ⟨#[105, 102]⟩) = false) := Lib.hid (decide_eq_false (fun e => by have := word_wd (k := 2) (by decide) e; omega))
  have HW : Hid (decide (tx L i = ⟨#[119, 104, 105, 108, 101]⟩) = false) := Lib.hid (decide_eq_false (fun e => by have := word_wd (k := 3) (by decide) e; omega))
  clear hw
  have RR := Lib.hid h
  have HS := Lib.hid hs
  have HA := Lib.hid hA
  have hrb := h.lt
  have hi6 := h.hi
  have hL6 := h.hL
  clear h hs hA
  go_enter Tryd.func28, Tryd.ntmps28
  go_wp2_with fail
  have BA : Hid (Below w.heap.size w ((w.alloc (.cells #[.int .i64 0, .string ByteArray.empty, .int .i64 0, .int .i64 0, .string ByteArray.empty, .slice none 0 0, .slice none 0 0, .slice none 0 0] 67)).alloc (.cells #[.int .i64 0, .string ⟨#[]⟩, .int .i64 0, .int .i64 0, .string ⟨#[]⟩, .slice none 0 0, .slice none 0 0, .slice none 0 0] 67))) := Lib.hid (Below.alloc (Below.alloc (Below.refl _ _) (Nat.le_refl _) _) (by simp) _)
  have V4 : Hid (((w.alloc (.cells #[.int .i64 0, .string ByteArray.empty, .int .i64 0, .int .i64 0, .string ByteArray.empty, .slice none 0 0, .slice none 0 0, .slice none 0 0] 67)).alloc (.cells #[.int .i64 0, .string ⟨#[]⟩, .int .i64 0, .int .i64 0, .string ⟨#[]⟩, .slice none 0 0, .slice none 0 0, .slice none 0 0] 67)).heap[w.heap.size]? = some (.cells #[.int .i64 0, .string ⟨#[]⟩, .int .i64 0, .int .i64 0, .string ⟨#[]⟩, .slice none 0 0, .slice none 0 0, .slice none 0 0] 67 (0, 0))) := Lib.hid ((heap_alloc_lt (by simp)).trans (heap_alloc_new _ _))
  have V5 : Hid (((w.alloc (.cells #[.int .i64 0, .string ByteArray.empty, .int .i64 0, .int .i64 0, .string ByteArray.empty, .slice none 0 0, .slice none 0 0, .slice none 0 0] 67)).alloc (.cells #[.int .i64 0, .string ⟨#[]⟩, .int .i64 0, .int .i64 0, .string ⟨#[]⟩, .slice none 0 0, .slice none 0 0, .slice none 0 0] 67)).heap[w.heap.size + 1]? = some (.cells #[.int .i64 0, .string ⟨#[]⟩, .int .i64 0, .int .i64 0, .string ⟨#[]⟩, .slice none 0 0, .slice none 0 0, .slice none 0 0] 67 (0, 0))) := Lib.hid (by have := heap_alloc_new (w.alloc (.cells #[.int .i64 0, .string ByteArray.empty, .int .i64 0, .int .i64 0, .string ByteArray.empty, .slice none 0 0, .slice none 0 0, .slice none 0 0] 67)) (.cells #[.int .i64 0, .string ⟨#[]⟩, .int .i64 0, .int .i64 0, .string ⟨#[]⟩, .slice none 0 0, .slice none 0 0, .slice none 0 0] 67); simpa using this)
  obtain ⟨wa, hwa⟩ : ∃ wa, ((w.alloc (.cells #[.int .i64 0, .string ByteArray.empty, .int .i64 0, .int .i64 0, .string ByteArray.empty, .slice none 0 0, .slice none 0 0, .slice none 0 0] 67)).alloc (.cells #[.int .i64 0, .string ⟨#[]⟩, .int .i64 0, .int .i64 0, .string ⟨#[]⟩, .slice none 0 0, .slice none 0 0, .slice none 0 0] 67)) = wa := ⟨_, rfl⟩
  have hza : wa.heap.size = w.heap.size + 2 := by rw [← hwa]; simp
  have hwa2 : ((w.alloc (.cells #[.int .i64 0, .string ⟨#[]⟩, .int .i64 0, .int .i64 0, .string ⟨#[]⟩, .slice none 0 0, .slice none 0 0, .slice none 0 0] 67)).alloc (.cells #[.int .i64 0, .string ⟨#[]⟩, .int .i64 0, .int .i64 0, .string ⟨#[]⟩, .slice none 0 0, .slice none 0 0, .slice none 0 0] 67)) = wa := hwa
  have hwa3 : ((w.alloc (.cells #[.int .i64 0, .string ByteArray.empty, .int .i64 0, .int .i64 0, .string ByteArray.empty, .slice none 0 0, .slice none 0 0, .slice none 0 0] 67)).alloc (.cells #[.int .i64 0, .string ByteArray.empty, .int .i64 0, .int .i64 0, .string ByteArray.empty, .slice none 0 0, .slice none 0 0, .slice none 0 0] 67)) = wa := hwa
  (first | rw [hwa] | rw [hwa2] | rw [hwa3])
  rw [hwa] at BA V4 V5
  clear hwa hwa2 hwa3
  replace RR := Lib.hid (RR.out.below BA.out)
  have KK : Hid (KeepR rb w wa) := Lib.hid (KeepR.of_below' BA.out)
  obtain ⟨g4, hg4⟩ : ∃ g, w.heap.size = g := ⟨_, rfl⟩
  obtain ⟨g5, hg5⟩ : ∃ g, w.heap.size + 1 = g := ⟨_, rfl⟩
  have HG4 := Lib.hid hg4
  have HG5 := Lib.hid hg5
  have hn45 : ¬ g4 = g5 := by omega
  have hn54 : ¬ g5 = g4 := by omega
  have hn4r : ¬ g4 = rb := by omega
  have hnr4 : ¬ rb = g4 := by omega
  have hn5r : ¬ g5 = rb := by omega
  have hnr5 : ¬ rb = g5 := by omega
  have HA4 : Hid (∀ b o, A = some ⟨b, o, none⟩ → b ≠ g4) := Lib.hid (fun b o e => by have := HA.out b o e; omega)
  have HA5 : Hid (∀ b o, A = some ⟨b, o, none⟩ → b ≠ g5) := Lib.hid (fun b o e => by have := HA.out b o e; omega)
  rw [hg4] at V4
  rw [hg5] at V5
  (try rw [hg5])
  (try rw [hg4])
  clear hg4 hg5 BA
  refine (rs_is ⟨#[105, 102]⟩ _ rb A c n i L 0 0 lf RR.out (by decide)).mono ?_
  rintro e u1 ⟨rfl, bu1⟩
  rw [kd1, HI.out]
  replace RR := Lib.hid (RR.out.below bu1)
  replace KK := Lib.hid (KeepR.trans' KK.out (KeepR.of_below' bu1))
  replace V4 := Lib.hid ((bu1.block g4 (lt_of_block V4.out)).trans V4.out)
  replace V5 := Lib.hid ((bu1.block g5 (lt_of_block V5.out)).trans V5.out)
  clear bu1
  go_wp2_with fail
  refine (rs_is ⟨#[119, 104, 105, 108, 101]⟩ _ rb A c n i L 0 0 lf RR.out (by decide)).mono ?_
  rintro e u2 ⟨rfl, bu2⟩
  rw [kd1, HW.out]
  replace RR := Lib.hid (RR.out.below bu2)
  replace KK := Lib.hid (KeepR.trans' KK.out (KeepR.of_below' bu2))
  replace V4 := Lib.hid ((bu2.block g4 (lt_of_block V4.out)).trans V4.out)
  replace V5 := Lib.hid ((bu2.block g5 (lt_of_block V5.out)).trans V5.out)
  clear bu2
  obtain ⟨_, p1, _, p3, _, p5⟩ := RR.out.cs
  have fr := RR.out.fz 5
  have hrl := RR.out.lt
  replace RR := Lib.hid (RR.out.setl (lf - 1))
  replace KK := Lib.hid (KeepR.setr (o := 5) KK.out (.int .i64 (lf - 1)))
  replace V4 := Lib.hid ((Below.heap_setCell u2 ⟨rb, 5, none⟩ (.int .i64 (lf - 1)) g4 hn4r).trans V4.out)
  replace V5 := Lib.hid ((Below.heap_setCell u2 ⟨rb, 5, none⟩ (.int .i64 (lf - 1)) g5 hn5r).trans V5.out)
  go_wp2_with fail
  obtain ⟨u3, hu3⟩ : ∃ x, (u2.setCell ⟨rb, 5, none⟩ (.int .i64 (lf - 1))) = x := ⟨_, rfl⟩
  rw [hu3] at RR KK V4 V5 ⊢
  clear hu3 p1 p3 p5 fr hrl
  replace RR : Hid (RsAt u3 rb A c n i L 0 0 (left : Int)) := Lib.hid (by rw [← HLF.out]; exact RR.out)
  refine (rs_named _ rb A c n i L 0 0 (left : Int) RR.out HS.out).mono ?_
  rintro e u4 ⟨rfl, bu4⟩
  rw [kd2, HNM.out]
  replace RR := Lib.hid (RR.out.below bu4)
  replace KK := Lib.hid (KeepR.trans' KK.out (KeepR.of_below' bu4))
  replace V4 := Lib.hid ((bu4.block g4 (lt_of_block V4.out)).trans V4.out)
  replace V5 := Lib.hid ((bu4.block g5 (lt_of_block V5.out)).trans V5.out)
  clear bu4
  go_wp2_with fail
  go_loopw [7] (fun iv wr => ∃ j : Nat, 2 ≤ j ∧ j ≤ 9 ∧ iv = .int .i64 (j : Int) ∧ Hid (KeepR g5 u4 wr ∧ wr.heap[g5]? = some (.cells #[.int .i64 (kdAt (8 : Int) j), .string ⟨#[]⟩, .int .i64 0, .int .i64 0, .string ⟨#[]⟩, .slice none 0 0, .slice none 0 0, .slice none 0 0] 67 (0, 0)))) (fun iv _ => 10 - (intOf iv).toNat)
  case atStart => exact ⟨2, Nat.le_refl _, by omega, rfl, Lib.hid ⟨Keep.refl _ _, by rw [kdAt_two (by omega)]; exact V5.out⟩⟩
  case round =>
    rename World => wr
    obtain ⟨jj, hj2, hj9, rfl, HB⟩ := hrel
    by_cases hlt' : jj < 9
    · have h0 : (jj : Int) ≤ 8 := by omega
      have HKJ : Hid ((jj : Int) = 2 ∨ (jj : Int) = 3 ∨ (jj : Int) = 4 ∨ (jj : Int) = 5 ∨ (jj : Int) = 6 ∨ (jj : Int) = 7 ∨ (jj : Int) = 8) := Lib.hid (by omega)
      go_wp2_with fail
      refine (spec_wordK (jj : Int) HKJ.out _).mono ?_
      rintro e wa ⟨rfl, ba⟩
      have HBa : Hid (KeepR g5 u4 wa ∧ wa.heap[g5]? = some (.cells #[.int .i64 (kdAt (8 : Int) jj), .string ⟨#[]⟩, .int .i64 0, .int .i64 0, .string ⟨#[]⟩, .slice none 0 0, .slice none 0 0, .slice none 0 0] 67 (0, 0))) := Lib.hid ⟨HB.out.1.trans' (KeepR.of_below' ba), (ba.block g5 (lt_of_block HB.out.2)).trans HB.out.2⟩
      clear ba
      go_wp2_with fail
      refine (rs_is (wdB (jj : Int)) _ rb A c n i L 0 0 (left : Int) (RR.out.keepS HBa.out.1 (by show rb ≠ g5; exact hnr5) (fun b' o' e => ⟨HA5.out b' o' e, Nat.lt_of_lt_of_le (HA.out b' o' e) KK.out.size⟩)) (wdB_ne _)).mono ?_
      rintro e wb ⟨rfl, bb⟩
      have HBb : Hid (KeepR g5 u4 wb ∧ wb.heap[g5]? = some (.cells #[.int .i64 (kdAt (8 : Int) jj), .string ⟨#[]⟩, .int .i64 0, .int .i64 0, .string ⟨#[]⟩, .slice none 0 0, .slice none 0 0, .slice none 0 0] 67 (0, 0))) := Lib.hid ⟨HBa.out.1.trans' (KeepR.of_below' bb), (bb.block g5 (lt_of_block HBa.out.2)).trans HBa.out.2⟩
      clear bb
      by_cases hyes : tx L i = wdB (jj : Int)
      · rw [show (decide ((0 : Int) = 0) && decide (tx L i = wdB (jj : Int))) = true from by rw [decide_eq_true hyes]; rfl]
        have hkd : (8 : Int) = (jj : Int) := by
          have h1 := word_wd (L := L) (k := (jj : Int)) ⟨by omega, by omega⟩ hyes
          rw [HWK.out] at h1
          exact h1
        obtain ⟨⟨c0, c1, c2, c3, c4, c5, c6, c7⟩, f0, f1, f2, f3, f4, f5, f6, f7⟩ := cells8R HBb.out.2
        have hzb := lt_of_block HBb.out.2
        go_wp2_with fail
        go_roundw
        case rel => exact ⟨jj + 1, by omega, by omega, by go_num, Lib.hid ⟨HBb.out.1.setCell (p := ⟨g5, 0, none⟩) (by simp) _, by rw [kdAt_hit hkd]; exact s8_0 HBb.out.2 _⟩⟩
        case measure => simp [intOf]; omega
      · rw [show (decide ((0 : Int) = 0) && decide (tx L i = wdB (jj : Int))) = false from by rw [decide_eq_false hyes]; rfl]
        have hkd : (8 : Int) ≠ (jj : Int) := fun e => hyes (e ▸ HTX.out)
        go_wp2_with fail
        go_roundw
        case rel => exact ⟨jj + 1, by omega, by omega, by go_num, Lib.hid ⟨HBb.out.1, by rw [kdAt_step hkd]; exact HBb.out.2⟩⟩
        case measure => simp [intOf]; omega
    have h0 : ¬ (jj : Int) ≤ 8 := by omega
    obtain rfl : jj = 9 := by omega
    replace RR := Lib.hid (RR.out.keepS HB.out.1 (by show rb ≠ g5; exact hnr5) (fun b' o' e => ⟨HA5.out b' o' e, Nat.lt_of_lt_of_le (HA.out b' o' e) KK.out.size⟩))
    replace V4 := Lib.hid ((HB.out.1.block g4 (lt_of_block V4.out) (by show g4 ≠ g5; exact hn45)).trans V4.out)
    replace KK : Hid (KeepR rb w wr) := Lib.hid (KK.out.trans HB.out.1 (fun b hb _ => by show b ≠ g5; have := HG5.out; omega))
    replace V5 : Hid (wr.heap[g5]? = some (.cells #[.int .i64 8, .string ⟨#[]⟩, .int .i64 0, .int .i64 0, .string ⟨#[]⟩, .slice none 0 0, .slice none 0 0, .slice none 0 0] 67 (0, 0))) := Lib.hid (by have h := HB.out.2; rw [kdAt_nine (by omega)] at h; exact h)
    clear HB
    obtain ⟨⟨c0, c1, c2, c3, c4, c5, c6, c7⟩, f0, f1, f2, f3, f4, f5, f6, f7⟩ := cells8R V5.out
    have hz5 := lt_of_block V5.out
    obtain ⟨_, p1, _, p3, _, p5⟩ := RR.out.cs
    have fr := RR.out.fz 1
    have hrl := RR.out.lt
    replace RR := Lib.hid (RR.out.seti (by omega))
    replace KK := Lib.hid (KeepR.setr (o := 1) KK.out (.int .i64 ((i : Int) + 1)))
    replace V4 := Lib.hid ((Below.heap_setCell wr ⟨rb, 1, none⟩ (.int .i64 ((i : Int) + 1)) g4 hn4r).trans V4.out)
    replace V5 := Lib.hid ((Below.heap_setCell wr ⟨rb, 1, none⟩ (.int .i64 ((i : Int) + 1)) g5 hn5r).trans V5.out)
    go_wp2_with fail
    obtain ⟨u5, hu5⟩ : ∃ x, (wr.setCell ⟨rb, 1, none⟩ (.int .i64 ((i : Int) + 1))) = x := ⟨_, rfl⟩
    rw [hu5] at RR KK V4 V5 ⊢
    clear hu5 p1 p3 p5 fr hrl
    clear c0 c1 c2 c3 c4 c5 c6 c7 f0 f1 f2 f3 f4 f5 f6 f7 hz5
    refine (rs_take ⟨#[59]⟩ _ rb A c n (i + 1) L 0 (left : Int) RR.out (by decide)).mono ?_
    rintro e u6 ⟨rfl, ku6, hret⟩
    rcases hret with ⟨ht, ru6⟩ | ⟨ht, ru6⟩
    case inr =>
      have HF : Hid (¬ (3 : Int) = 0) := Lib.hid (by decide)
      have GG : Hid (oneG L n rec 8 i left = .bad 3 (posAt L n (i + 1))) := Lib.hid (by rw [oneG_skip, tk_bad ht]; rfl)
      clear ht
      replace RR := Lib.hid ru6
      replace KK := Lib.hid (KeepR.trans' KK.out ku6)
      replace V4 := Lib.hid ((ku6.block g4 (lt_of_block V4.out) hn4r).trans V4.out)
      replace V5 := Lib.hid ((ku6.block g5 (lt_of_block V5.out) hn5r).trans V5.out)
      clear ku6 ru6
      obtain ⟨⟨c0, c1, c2, c3, c4, c5, c6, c7⟩, f0, f1, f2, f3, f4, f5, f6, f7⟩ := cells8R V4.out
      obtain ⟨⟨a0, a1, a2, a3, a4, a5, a6, a7⟩, _⟩ := cells8R V5.out
      have hz4 := lt_of_block V4.out
      have hz5 := lt_of_block V5.out
      go_wp2_with fail
      refine bodyPost_ret (v := .agg #[.int .i64 8, .string ⟨#[]⟩, .int .i64 0, .int .i64 0, .string ⟨#[]⟩, .slice none 0 0, .slice none 0 0, .slice none 0 0]) (by simp [results, Tryd.results28, go_sem, c0, c1, c2, c3, c4, c5, c6, c7]) rfl ?_
      rw [GG.out]
      exact finRB ⟨8, ⟨#[]⟩, 0, 0, ⟨#[]⟩, none, 0, 0, none, 0, 0, none, 0, 0⟩ HG4.out KK.out RR.out HF.out HA4.out hn4r
    have GG : Hid (oneG L n rec 8 i left = .ok (.mk 8 ⟨#[]⟩ zTm [] [], left) (i + 1 + 1)) := Lib.hid (by rw [oneG_skip, tk_ok ht, bind_ok])
    clear ht
    replace RR := Lib.hid ru6
    replace KK := Lib.hid (KeepR.trans' KK.out ku6)
    replace V4 := Lib.hid ((ku6.block g4 (lt_of_block V4.out) hn4r).trans V4.out)
    replace V5 := Lib.hid ((ku6.block g5 (lt_of_block V5.out) hn5r).trans V5.out)
    clear ku6 ru6
    obtain ⟨⟨c0, c1, c2, c3, c4, c5, c6, c7⟩, f0, f1, f2, f3, f4, f5, f6, f7⟩ := cells8R V4.out
    obtain ⟨⟨a0, a1, a2, a3, a4, a5, a6, a7⟩, _⟩ := cells8R V5.out
    have hz4 := lt_of_block V4.out
    have hz5 := lt_of_block V5.out
    go_wp2_with fail
    refine bodyPost_ret (v := .agg #[.int .i64 8, .string ⟨#[]⟩, .int .i64 0, .int .i64 0, .string ⟨#[]⟩, .slice none 0 0, .slice none 0 0, .slice none 0 0]) (by simp [results, Tryd.results28, go_sem, c0, c1, c2, c3, c4, c5, c6, c7]) rfl ?_
    rw [GG.out]
    exact finRO (F := fun _ => False) ⟨8, ⟨#[]⟩, 0, 0, ⟨#[]⟩, none, 0, 0, none, 0, 0, none, 0, 0⟩ HG4.out KK.out RR.out HA4.out hn4r (stO_flatR (show i64in 8 from by unfold i64in; omega) (Nat.zero_le _) zTmO (fun _ h => h)) (fun _ h => h.elim)
end Go.Proofs.YtdanlgmpgdipnaaDoor
