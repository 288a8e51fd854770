/- Several texts in one: RsSt3. -/
import Derived.Test.YtdanlgmpgdipnaaDoorKd38
namespace Go.Proofs.YtdanlgmpgdipnaaDoor
open Go.RowKit
set_option linter.unusedVariables false


theorem kdAt_two' {K : Int} (h : 2 ≤ K) : kdAt K 2 = 0 := by unfold kdAt; rw [if_neg (by omega)]
theorem kdAt_nine' {K : Int} (h : K ≤ 8) : kdAt K 9 = K := by unfold kdAt; rw [if_pos (by omega)]
section
variable {L : List Sg} {n : Nat} {rec : Nat → Nat → Got (List St × Nat)} {K : Int} {i left : Nat} {t : Tm} {b e : List St × Nat}
def nesE (L : List Sg) (n : Nat) (rec : Nat → Nat → Got (List St × Nat)) (K : Int) (t : Tm) (b : List St × Nat) (i : Nat) : Got (St × Nat) :=
  if K = 3 ∨ ¬ tx L i = tElse then .ok (.mk K ⟨#[]⟩ t b.1 [], b.2) i else (elsG L n rec (i + 1) b.2).bind fun e i3 => .ok (.mk K ⟨#[]⟩ t b.1 e.1, e.2) i3
def nesC (L : List Sg) (n : Nat) (rec : Nat → Nat → Got (List St × Nat)) (K : Int) (t : Tm) (b : List St × Nat) (i : Nat) : Got (St × Nat) := (tk L n ⟨#[125]⟩ i).bind fun _ i3 => nesE L n rec K t b i3
def nesB (L : List Sg) (n : Nat) (rec : Nat → Nat → Got (List St × Nat)) (K : Int) (t : Tm) (i left : Nat) : Got (St × Nat) := (blkG L n rec i left).bind fun b i2 => nesE L n rec K t b i2
def nesH (L : List Sg) (n : Nat) (K : Int) (t : Tm) (b e : List St × Nat) (i : Nat) : Got (St × Nat) := (tk L n ⟨#[125]⟩ i).bind fun _ i4 => .ok (.mk K ⟨#[]⟩ t b.1 e.1, e.2) i4
def nesF (L : List Sg) (n : Nat) (rec : Nat → Nat → Got (List St × Nat)) (K : Int) (t : Tm) (b : List St × Nat) (i : Nat) : Got (St × Nat) := (elsG L n rec i b.2).bind fun e i3 => .ok (.mk K ⟨#[]⟩ t b.1 e.1, e.2) i3
theorem oneG_nes (hk : K = 2 ∨ K = 3) : oneG L n rec K i left = (rdT L n 6 (i + 1)).bind fun t i1 => nesB L n rec K t i1 left := by rw [oneG_many hk]; rfl
theorem nesB_bad (h : ¬ tx L i = ⟨#[123]⟩) : nesB L n rec K t i left = .bad 3 (posAt L n i) := by unfold nesB blkG; rw [tk_bad h]; rfl
theorem nesB_open (h : tx L i = ⟨#[123]⟩) : nesB L n rec K t i left = (rec (i + 1) left).bind fun b i2 => nesC L n rec K t b i2 := by
  unfold nesB blkG
  rw [tk_ok h, bind_ok]
  cases rec (i + 1) left with
  | bad c p => rfl
  | ok b q =>
    rw [bind_ok, bind_ok]
    unfold nesC
    cases tk L n ⟨#[125]⟩ q with
    | bad c p => rfl
    | ok u q2 => rfl
theorem nesC_bad (h : ¬ tx L i = ⟨#[125]⟩) : nesC L n rec K t b i = .bad 3 (posAt L n i) := by unfold nesC; rw [tk_bad h]; rfl
theorem nesC_ok (h : tx L i = ⟨#[125]⟩) : nesC L n rec K t b i = nesE L n rec K t b (i + 1) := by unfold nesC; rw [tk_ok h]; rfl
theorem nesE_three : nesE L n rec 3 t b i = .ok (.mk 3 ⟨#[]⟩ t b.1 [], b.2) i := by unfold nesE; rw [if_pos (.inl rfl)]
theorem nesE_stop (h : ¬ tx L i = ⟨#[101, 108, 115, 101]⟩) : nesE L n rec K t b i = .ok (.mk K ⟨#[]⟩ t b.1 [], b.2) i := by unfold nesE; rw [if_pos (.inr h)]
theorem nesE_else (hk : ¬ K = 3) (h : tx L i = ⟨#[101, 108, 115, 101]⟩) : nesE L n rec K t b i = nesF L n rec K t b (i + 1) := by unfold nesE nesF; rw [if_neg (fun h2 => h2.elim hk (fun h3 => h3 h))]
theorem nesF_bad (h : ¬ tx L i = ⟨#[123]⟩) : nesF L n rec K t b i = .bad 3 (posAt L n i) := by
  unfold nesF elsG
  rw [if_neg (fun h2 => h h2.1)]
  unfold blkG
  rw [tk_bad h]; rfl
theorem nesF_none (h : tx L i = ⟨#[123]⟩) (h2 : wordOf L (i + 1) = 0) : nesF L n rec K t b i = .bad 3 (posAt L n (i + 1)) := by
  unfold nesF elsG
  rw [if_pos ⟨h, h2⟩]; rfl
theorem nesF_open (h : tx L i = ⟨#[123]⟩) (h2 : ¬ wordOf L (i + 1) = 0) : nesF L n rec K t b i = (rec (i + 1) b.2).bind fun e i3 => nesH L n K t b e i3 := by
  unfold nesF elsG
  rw [if_neg (fun h3 => h2 h3.2)]
  unfold blkG
  rw [tk_ok h, bind_ok]
  cases rec (i + 1) b.2 with
  | bad c p => rfl
  | ok e q =>
    rw [bind_ok, bind_ok]
    unfold nesH
    cases tk L n ⟨#[125]⟩ q with
    | bad c p => rfl
    | ok u q2 => rfl
theorem nesH_bad (h : ¬ tx L i = ⟨#[125]⟩) : nesH L n K t b e i = .bad 3 (posAt L n i) := by unfold nesH; rw [tk_bad h]; rfl
theorem nesH_ok (h : tx L i = ⟨#[125]⟩) : nesH L n K t b e i = .ok (.mk K ⟨#[]⟩ t b.1 e.1, e.2) (i + 1) := by unfold nesH; rw [tk_ok h]; rfl
end
set_option maxHeartbeats 6400000 in
set_option maxRecDepth 100000 in
theorem rs_stmt_nes3 (r : Nat) (hr6 : r ≤ 6) (ih : SpSC r) (w : World) (rb : Nat) (A : Option Addr) (c n i : Nat) (L : List Sg) (left : Nat) (hs : SgsOk L) (hA : ∀ b o, A = some ⟨b, o, none⟩ → b < w.heap.size) (room : Int) (hl : left + 1 ≤ 60) (h : RsAt w rb A c n i L 0 0 ((left + 1 : Nat) : Int)) (hrm : room - 1 = (r : Int)) (hw : wordOf L i = 3) :
    Calls Tryd.prog 28 #[.pointer (some ⟨rb, 0, none⟩), .int .i64 room] w fun e w' => GsS1 w w' rb A c n L (oneG L n (rdS L n r) 3 i left) e := by
  have IH := Lib.hid ih
  clear ih
  obtain ⟨lf, hlf⟩ : ∃ lf : Int, ((left + 1 : Nat) : Int) = lf := ⟨_, rfl⟩
  rw [hlf] at h
  have HLF : Hid (lf - 1 = (left : Int)) := Lib.hid (by omega)
  have hlf0 : (lf == 0) = false := beq_eq_false_iff_ne.2 (by omega)
  have hlf1 : 1 ≤ lf := by omega
  have hlf2 : lf ≤ 60 := by omega
  clear hlf
  have HWK := Lib.hid hw
  have HTX := Lib.hid (wd_word (by decide) hw).1
  have HNM := Lib.hid (wd_word (by decide) hw).2.2
  have hlt := wordOf_lt (L := L) (i := i) (by rw [hw]; omega)
  have HRM := Lib.hid hrm
  have hr0 : (room == 0) = false := beq_eq_false_iff_ne.2 (by omega)
  have hrA : 1 ≤ room := by omega
  have hrB : room ≤ 60 := by omega
  clear hrm
  have HI : Hid (decide (tx L i = ⟨#[105, 102]⟩) = false) := Lib.hid (decide_eq_false (fun e => by have := word_wd (k := 2) (by decide) e; omega))
  have HW : Hid (decide (tx L i = ⟨#[119, 104, 105, 108, 101]⟩) = true) := Lib.hid (decide_eq_true (wd_word (by omega) hw).1)
  clear hw
  have RR := Lib.hid h
  have HS := Lib.hid hs
  have HA := Lib.hid hA
  have hrb := h.lt
  have hi6 := h.hi
  have hL6 := h.hL
  clear h hs hA
  go_enter Tryd.func28, Tryd.ntmps28
  go_wp2_with fail
  have BA : Hid (Below w.heap.size w ((w.alloc (.cells #[.int .i64 0, .string ByteArray.empty, .int .i64 0, .int .i64 0, .string ByteArray.empty, .slice none 0 0, .slice none 0 0, .slice none 0 0] 67)).alloc (.cells #[.int .i64 0, .string ⟨#[]⟩, .int .i64 0, .int .i64 0, .string ⟨#[]⟩, .slice none 0 0, .slice none 0 0, .slice none 0 0] 67))) := Lib.hid (Below.alloc (Below.alloc (Below.refl _ _) (Nat.le_refl _) _) (by simp) _)
  have V4 : Hid (((w.alloc (.cells #[.int .i64 0, .string ByteArray.empty, .int .i64 0, .int .i64 0, .string ByteArray.empty, .slice none 0 0, .slice none 0 0, .slice none 0 0] 67)).alloc (.cells #[.int .i64 0, .string ⟨#[]⟩, .int .i64 0, .int .i64 0, .string ⟨#[]⟩, .slice none 0 0, .slice none 0 0, .slice none 0 0] 67)).heap[w.heap.size]? = some (.cells #[.int .i64 0, .string ⟨#[]⟩, .int .i64 0, .int .i64 0, .string ⟨#[]⟩, .slice none 0 0, .slice none 0 0, .slice none 0 0] 67 (0, 0))) := Lib.hid ((heap_alloc_lt (by simp)).trans (heap_alloc_new _ _))
  have V5 : Hid (((w.alloc (.cells #[.int .i64 0, .string ByteArray.empty, .int .i64 0, .int .i64 0, .string ByteArray.empty, .slice none 0 0, .slice none 0 0, .slice none 0 0] 67)).alloc (.cells #[.int .i64 0, .string ⟨#[]⟩, .int .i64 0, .int .i64 0, .string ⟨#[]⟩, .slice none 0 0, .slice none 0 0, .slice none 0 0] 67)).heap[w.heap.size + 1]? = some (.cells #[.int .i64 0, .string ⟨#[]⟩, .int .i64 0, .int .i64 0, .string ⟨#[]⟩, .slice none 0 0, .slice none 0 0, .slice none 0 0] 67 (0, 0))) := Lib.hid (by have := heap_alloc_new (w.alloc (.cells #[.int .i64 0, .string ByteArray.empty, .int .i64 0, .int .i64 0, .string ByteArray.empty, .slice none 0 0, .slice none 0 0, .slice none 0 0] 67)) (.cells #[.int .i64 0, .string ⟨#[]⟩, .int .i64 0, .int .i64 0, .string ⟨#[]⟩, .slice none 0 0, .slice none 0 0, .slice none 0 0] 67); simpa using this)
  obtain ⟨wa, hwa⟩ : ∃ wa, ((w.alloc (.cells #[.int .i64 0, .string ByteArray.empty, .int .i64 0, .int .i64 0, .string ByteArray.empty, .slice none 0 0, .slice none 0 0, .slice none 0 0] 67)).alloc (.cells #[.int .i64 0, .string ⟨#[]⟩, .int .i64 0, .int .i64 0, .string ⟨#[]⟩, .slice none 0 0, .slice none 0 0, .slice none 0 0] 67)) = wa := ⟨_, rfl⟩
  have hza : wa.heap.size = w.heap.size + 2 := by rw [← hwa]; simp
  have hwa2 : ((w.alloc (.cells #[.int .i64 0, .string ⟨#[]⟩, .int .i64 0, .int .i64 0, .string ⟨#[]⟩, .slice none 0 0, .slice none 0 0, .slice none 0 0] 67)).alloc (.cells #[.int .i64 0, .string ⟨#[]⟩, .int .i64 0, .int .i64 0, .string ⟨#[]⟩, .slice none 0 0, .slice none 0 0, .slice none 0 0] 67)) = wa := hwa
  have hwa3 : ((w.alloc (.cells #[.int .i64 0, .string ByteArray.empty, .int .i64 0, .int .i64 0, .string ByteArray.empty, .slice none 0 0, .slice none 0 0, .slice none 0 0] 67)).alloc (.cells #[.int .i64 0, .string ByteArray.empty, .int .i64 0, .int .i64 0, .string ByteArray.empty, .slice none 0 0, .slice none 0 0, .slice none 0 0] 67)) = wa := hwa
  (first | rw [hwa] | rw [hwa2] | rw [hwa3])
  rw [hwa] at BA V4 V5
  clear hwa hwa2 hwa3
  replace RR := Lib.hid (RR.out.below BA.out)
  have KK : Hid (KeepR rb w wa) := Lib.hid (KeepR.of_below' BA.out)
  obtain ⟨g4, hg4⟩ : ∃ g, w.heap.size = g := ⟨_, rfl⟩
  obtain ⟨g5, hg5⟩ : ∃ g, w.heap.size + 1 = g := ⟨_, rfl⟩
  have HG4 := Lib.hid hg4
  have HG5 := Lib.hid hg5
  have hn45 : ¬ g4 = g5 := by omega
  have hn54 : ¬ g5 = g4 := by omega
  have hn4r : ¬ g4 = rb := by omega
  have hnr4 : ¬ rb = g4 := by omega
  have hn5r : ¬ g5 = rb := by omega
  have hnr5 : ¬ rb = g5 := by omega
  have HA4 : Hid (∀ b o, A = some ⟨b, o, none⟩ → b ≠ g4) := Lib.hid (fun b o e => by have := HA.out b o e; omega)
  have HA5 : Hid (∀ b o, A = some ⟨b, o, none⟩ → b ≠ g5) := Lib.hid (fun b o e => by have := HA.out b o e; omega)
  rw [hg4] at V4
  rw [hg5] at V5
  (try rw [hg5])
  (try rw [hg4])
  clear hg4 hg5 BA
  refine (rs_is ⟨#[105, 102]⟩ _ rb A c n i L 0 0 lf RR.out (by decide)).mono ?_
  rintro e u1 ⟨rfl, bu1⟩
  rw [kd1, HI.out]
  replace RR := Lib.hid (RR.out.below bu1)
  replace KK := Lib.hid (KeepR.trans' KK.out (KeepR.of_below' bu1))
  replace V4 := Lib.hid ((bu1.block g4 (lt_of_block V4.out)).trans V4.out)
  replace V5 := Lib.hid ((bu1.block g5 (lt_of_block V5.out)).trans V5.out)
  clear bu1
  go_wp2_with fail
  refine (rs_is ⟨#[119, 104, 105, 108, 101]⟩ _ rb A c n i L 0 0 lf RR.out (by decide)).mono ?_
  rintro e u2 ⟨rfl, bu2⟩
  rw [kd1, HW.out]
  replace RR := Lib.hid (RR.out.below bu2)
  replace KK := Lib.hid (KeepR.trans' KK.out (KeepR.of_below' bu2))
  replace V4 := Lib.hid ((bu2.block g4 (lt_of_block V4.out)).trans V4.out)
  replace V5 := Lib.hid ((bu2.block g5 (lt_of_block V5.out)).trans V5.out)
  clear bu2
  obtain ⟨_, p1, _, p3, _, p5⟩ := RR.out.cs
  have fr := RR.out.fz 5
  have hrl := RR.out.lt
  replace RR := Lib.hid (RR.out.setl (lf - 1))
  replace KK := Lib.hid (KeepR.setr (o := 5) KK.out (.int .i64 (lf - 1)))
  replace V4 := Lib.hid ((Below.heap_setCell u2 ⟨rb, 5, none⟩ (.int .i64 (lf - 1)) g4 hn4r).trans V4.out)
  replace V5 := Lib.hid ((Below.heap_setCell u2 ⟨rb, 5, none⟩ (.int .i64 (lf - 1)) g5 hn5r).trans V5.out)
  go_wp2_with fail
  obtain ⟨u3, hu3⟩ : ∃ x, (u2.setCell ⟨rb, 5, none⟩ (.int .i64 (lf - 1))) = x := ⟨_, rfl⟩
  rw [hu3] at RR KK V4 V5 ⊢
  clear hu3 p1 p3 p5 fr hrl
  replace RR : Hid (RsAt u3 rb A c n i L 0 0 (left : Int)) := Lib.hid (by rw [← HLF.out]; exact RR.out)
  refine (rs_named _ rb A c n i L 0 0 (left : Int) RR.out HS.out).mono ?_
  rintro e u4 ⟨rfl, bu4⟩
  rw [kd2, HNM.out]
  replace RR := Lib.hid (RR.out.below bu4)
  replace KK := Lib.hid (KeepR.trans' KK.out (KeepR.of_below' bu4))
  replace V4 := Lib.hid ((bu4.block g4 (lt_of_block V4.out)).trans V4.out)
  replace V5 := Lib.hid ((bu4.block g5 (lt_of_block V5.out)).trans V5.out)
  clear bu4
  go_wp2_with fail
  go_loopw [7] (fun iv wr => ∃ j : Nat, 2 ≤ j ∧ j ≤ 9 ∧ iv = .int .i64 (j : Int) ∧ Hid (KeepR g5 u4 wr ∧ wr.heap[g5]? = some (.cells #[.int .i64 (kdAt (3 : Int) j), .string ⟨#[]⟩, .int .i64 0, .int .i64 0, .string ⟨#[]⟩, .slice none 0 0, .slice none 0 0, .slice none 0 0] 67 (0, 0)))) (fun iv _ => 10 - (intOf iv).toNat)
  case atStart => exact ⟨2, Nat.le_refl _, by omega, rfl, Lib.hid ⟨Keep.refl _ _, by rw [kdAt_two' (by omega)]; exact V5.out⟩⟩
  case round =>
    rename World => wr
    obtain ⟨jj, hj2, hj9, rfl, HB⟩ := hrel
    by_cases hlt' : jj < 9
    · have h0 : (jj : Int) ≤ 8 := by omega
      have HKJ : Hid ((jj : Int) = 2 ∨ (jj : Int) = 3 ∨ (jj : Int) = 4 ∨ (jj : Int) = 5 ∨ (jj : Int) = 6 ∨ (jj : Int) = 7 ∨ (jj : Int) = 8) := Lib.hid (by omega)
      go_wp2_with fail
      refine (spec_wordK (jj : Int) HKJ.out _).mono ?_
      rintro e wa ⟨rfl, ba⟩
      have HBa : Hid (KeepR g5 u4 wa ∧ wa.heap[g5]? = some (.cells #[.int .i64 (kdAt (3 : Int) jj), .string ⟨#[]⟩, .int .i64 0, .int .i64 0, .string ⟨#[]⟩, .slice none 0 0, .slice none 0 0, .slice none 0 0] 67 (0, 0))) := Lib.hid ⟨HB.out.1.trans' (KeepR.of_below' ba), (ba.block g5 (lt_of_block HB.out.2)).trans HB.out.2⟩
      clear ba
      go_wp2_with fail
      refine (rs_is (wdB (jj : Int)) _ rb A c n i L 0 0 (left : Int) (RR.out.keepS HBa.out.1 (by show rb ≠ g5; exact hnr5) (fun b' o' e => ⟨HA5.out b' o' e, Nat.lt_of_lt_of_le (HA.out b' o' e) KK.out.size⟩)) (wdB_ne _)).mono ?_
      rintro e wb ⟨rfl, bb⟩
      have HBb : Hid (KeepR g5 u4 wb ∧ wb.heap[g5]? = some (.cells #[.int .i64 (kdAt (3 : Int) jj), .string ⟨#[]⟩, .int .i64 0, .int .i64 0, .string ⟨#[]⟩, .slice none 0 0, .slice none 0 0, .slice none 0 0] 67 (0, 0))) := Lib.hid ⟨HBa.out.1.trans' (KeepR.of_below' bb), (bb.block g5 (lt_of_block HBa.out.2)).trans HBa.out.2⟩
      clear bb
      by_cases hyes : tx L i = wdB (jj : Int)
      · rw [show (decide ((0 : Int) = 0) && decide (tx L i = wdB (jj : Int))) = true from by rw [decide_eq_true hyes]; rfl]
        have hkd : (3 : Int) = (jj : Int) := by
          have h1 := word_wd (L := L) (k := (jj : Int)) ⟨by omega, by omega⟩ hyes
          rw [HWK.out] at h1
          exact h1
        obtain ⟨⟨c0, c1, c2, c3, c4, c5, c6, c7⟩, f0, f1, f2, f3, f4, f5, f6, f7⟩ := cells8R HBb.out.2
        have hzb := lt_of_block HBb.out.2
        go_wp2_with fail
        go_roundw
        case rel => exact ⟨jj + 1, by omega, by omega, by go_num, Lib.hid ⟨HBb.out.1.setCell (p := ⟨g5, 0, none⟩) (by simp) _, by rw [kdAt_hit hkd]; exact s8_0 HBb.out.2 _⟩⟩
        case measure => simp [intOf]; omega
      · rw [show (decide ((0 : Int) = 0) && decide (tx L i = wdB (jj : Int))) = false from by rw [decide_eq_false hyes]; rfl]
        have hkd : (3 : Int) ≠ (jj : Int) := fun e => hyes (e ▸ HTX.out)
        go_wp2_with fail
        go_roundw
        case rel => exact ⟨jj + 1, by omega, by omega, by go_num, Lib.hid ⟨HBb.out.1, by rw [kdAt_step hkd]; exact HBb.out.2⟩⟩
        case measure => simp [intOf]; omega
    have h0 : ¬ (jj : Int) ≤ 8 := by omega
    obtain rfl : jj = 9 := by omega
    replace RR := Lib.hid (RR.out.keepS HB.out.1 (by show rb ≠ g5; exact hnr5) (fun b' o' e => ⟨HA5.out b' o' e, Nat.lt_of_lt_of_le (HA.out b' o' e) KK.out.size⟩))
    replace V4 := Lib.hid ((HB.out.1.block g4 (lt_of_block V4.out) (by show g4 ≠ g5; exact hn45)).trans V4.out)
    replace KK : Hid (KeepR rb w wr) := Lib.hid (KK.out.trans HB.out.1 (fun b hb _ => by show b ≠ g5; have := HG5.out; omega))
    replace V5 : Hid (wr.heap[g5]? = some (.cells #[.int .i64 3, .string ⟨#[]⟩, .int .i64 0, .int .i64 0, .string ⟨#[]⟩, .slice none 0 0, .slice none 0 0, .slice none 0 0] 67 (0, 0))) := Lib.hid (by have h := HB.out.2; rw [kdAt_nine' (by omega)] at h; exact h)
    clear HB
    obtain ⟨⟨c0, c1, c2, c3, c4, c5, c6, c7⟩, f0, f1, f2, f3, f4, f5, f6, f7⟩ := cells8R V5.out
    have hz5 := lt_of_block V5.out
    obtain ⟨_, p1, _, p3, _, p5⟩ := RR.out.cs
    have fr := RR.out.fz 1
    have hrl := RR.out.lt
    replace RR := Lib.hid (RR.out.seti (by omega))
    replace KK := Lib.hid (KeepR.setr (o := 1) KK.out (.int .i64 ((i : Int) + 1)))
    replace V4 := Lib.hid ((Below.heap_setCell wr ⟨rb, 1, none⟩ (.int .i64 ((i : Int) + 1)) g4 hn4r).trans V4.out)
    replace V5 := Lib.hid ((Below.heap_setCell wr ⟨rb, 1, none⟩ (.int .i64 ((i : Int) + 1)) g5 hn5r).trans V5.out)
    go_wp2_with fail
    obtain ⟨u5, hu5⟩ : ∃ x, (wr.setCell ⟨rb, 1, none⟩ (.int .i64 ((i : Int) + 1))) = x := ⟨_, rfl⟩
    rw [hu5] at RR KK V4 V5 ⊢
    clear hu5 p1 p3 p5 fr hrl
    clear c0 c1 c2 c3 c4 c5 c6 c7 f0 f1 f2 f3 f4 f5 f6 f7 hz5
    have GA : Hid (oneG L n (rdS L n r) 3 i left = (rdT L n 6 (i + 1)).bind fun t i1 => nesB L n (rdS L n r) 3 t i1 left) := Lib.hid (oneG_nes (by decide))
    have SL : Hid (g5 < u5.heap.size ∧ rb < u5.heap.size ∧ g4 < u5.heap.size) := Lib.hid ⟨lt_of_block V5.out, RR.out.lt, lt_of_block V4.out⟩
    have hcl := rs_term_all 6 (Nat.le_refl _) u5 rb A c n (i + 1) L (left : Int) HS.out (fun b o e => Nat.lt_of_lt_of_le (HA.out b o e) KK.out.size) RR.out
    rw [show (((6 : Nat) : Int)) = 6 from rfl] at hcl
    refine hcl.mono ?_
    clear hcl
    rintro e u6 ⟨ku6, ty, tn, ts, tA, tm, tc, rfl, hret⟩
    generalize rdT L n 6 (i + 1) = g at *
    cases g with
    | bad fc fp =>
      obtain ⟨hf, q, ru6⟩ := hret
      have HF := Lib.hid hf
      have GG : Hid (oneG L n (rdS L n r) 3 i left = .bad fc fp) := Lib.hid (by rw [GA.out]; rfl)
      clear hf GA
      replace RR := Lib.hid ru6
      replace KK := Lib.hid (KeepR.trans' KK.out ku6)
      replace V4 := Lib.hid ((ku6.block g4 (lt_of_block V4.out) hn4r).trans V4.out)
      replace V5 := Lib.hid ((ku6.block g5 (lt_of_block V5.out) hn5r).trans V5.out)
      clear ku6 ru6
      obtain ⟨⟨c0, c1, c2, c3, c4, c5, c6, c7⟩, f0, f1, f2, f3, f4, f5, f6, f7⟩ := cells8R V5.out
      have hz5 := lt_of_block V5.out
      replace RR := Lib.hid ((((RR.out.setg hn5r HA5.out 2 (.int .i64 ty)).setg hn5r HA5.out 3 (.int .i64 tn)).setg hn5r HA5.out 4 (.string ts)).setg hn5r HA5.out 5 (.slice tA tm tc))
      replace KK := Lib.hid (KeepR.setg (g := g5) (o := 5) (KeepR.setg (g := g5) (o := 4) (KeepR.setg (g := g5) (o := 3) (KeepR.setg (g := g5) (o := 2) KK.out (by have := HG5.out; omega) (.int .i64 ty)) (by have := HG5.out; omega) (.int .i64 tn)) (by have := HG5.out; omega) (.string ts)) (by have := HG5.out; omega) (.slice tA tm tc))
      replace V4 := Lib.hid ((Below.heap_setCell (((u6.setCell ⟨g5, 2, none⟩ (.int .i64 ty)).setCell ⟨g5, 3, none⟩ (.int .i64 tn)).setCell ⟨g5, 4, none⟩ (.string ts)) ⟨g5, 5, none⟩ (.slice tA tm tc) g4 hn45).trans ((Below.heap_setCell ((u6.setCell ⟨g5, 2, none⟩ (.int .i64 ty)).setCell ⟨g5, 3, none⟩ (.int .i64 tn)) ⟨g5, 4, none⟩ (.string ts) g4 hn45).trans ((Below.heap_setCell (u6.setCell ⟨g5, 2, none⟩ (.int .i64 ty)) ⟨g5, 3, none⟩ (.int .i64 tn) g4 hn45).trans ((Below.heap_setCell u6 ⟨g5, 2, none⟩ (.int .i64 ty) g4 hn45).trans V4.out))))
      replace V5 := Lib.hid (s8_t V5.out (.int .i64 ty) (.int .i64 tn) (.string ts) (.slice tA tm tc))
      go_wp2_with fail
      obtain ⟨u8, hu8⟩ : ∃ x, ((((u6.setCell ⟨g5, 2, none⟩ (.int .i64 ty)).setCell ⟨g5, 3, none⟩ (.int .i64 tn)).setCell ⟨g5, 4, none⟩ (.string ts)).setCell ⟨g5, 5, none⟩ (.slice tA tm tc)) = x := ⟨_, rfl⟩
      rw [hu8] at RR KK V4 V5 ⊢
      clear hu8 c0 c1 c2 c3 c4 c5 c6 c7 f0 f1 f2 f3 f4 f5 f6 f7 hz5
      refine (rs_take2 ⟨#[123]⟩ _ rb A c n q L fc fp (left : Int) RR.out (by decide) HF.out).mono ?_
      rintro e u7 ⟨rfl, bu7⟩
      replace RR := Lib.hid (RR.out.below bu7)
      replace KK := Lib.hid (KeepR.trans' KK.out (KeepR.of_below' bu7))
      replace V4 := Lib.hid ((bu7.block g4 (lt_of_block V4.out)).trans V4.out)
      replace V5 := Lib.hid ((bu7.block g5 (lt_of_block V5.out)).trans V5.out)
      clear bu7
      go_wp2_with fail
      refine (rs_stmts_fault _ _ rb A c n q L fc fp (left : Int) RR.out HF.out).mono ?_
      rintro e u9 ⟨Au9, cu9, rfl, bu9⟩
      replace RR := Lib.hid (RR.out.below bu9)
      replace KK := Lib.hid (KeepR.trans' KK.out (KeepR.of_below' bu9))
      replace V4 := Lib.hid ((bu9.block g4 (lt_of_block V4.out)).trans V4.out)
      replace V5 := Lib.hid ((bu9.block g5 (lt_of_block V5.out)).trans V5.out)
      clear bu9
      obtain ⟨⟨c0, c1, c2, c3, c4, c5, c6, c7⟩, f0, f1, f2, f3, f4, f5, f6, f7⟩ := cells8R V5.out
      have hz5 := lt_of_block V5.out
      replace RR := Lib.hid (RR.out.setg hn5r HA5.out 6 (.slice Au9 0 cu9))
      replace KK := Lib.hid (KeepR.setg (g := g5) (o := 6) KK.out (by have := HG5.out; omega) (.slice Au9 0 cu9))
      replace V4 := Lib.hid ((Below.heap_setCell u9 ⟨g5, 6, none⟩ (.slice Au9 0 cu9) g4 hn45).trans V4.out)
      replace V5 := Lib.hid (s8_6 V5.out (.slice Au9 0 cu9))
      go_wp2_with fail
      obtain ⟨u11, hu11⟩ : ∃ x, (u9.setCell ⟨g5, 6, none⟩ (.slice Au9 0 cu9)) = x := ⟨_, rfl⟩
      rw [hu11] at RR KK V4 V5 ⊢
      clear hu11 c0 c1 c2 c3 c4 c5 c6 c7 f0 f1 f2 f3 f4 f5 f6 f7 hz5
      refine (rs_take2 ⟨#[125]⟩ _ rb A c n q L fc fp (left : Int) RR.out (by decide) HF.out).mono ?_
      rintro e u10 ⟨rfl, bu10⟩
      replace RR := Lib.hid (RR.out.below bu10)
      replace KK := Lib.hid (KeepR.trans' KK.out (KeepR.of_below' bu10))
      replace V4 := Lib.hid ((bu10.block g4 (lt_of_block V4.out)).trans V4.out)
      replace V5 := Lib.hid ((bu10.block g5 (lt_of_block V5.out)).trans V5.out)
      clear bu10
      obtain ⟨⟨c0, c1, c2, c3, c4, c5, c6, c7⟩, f0, f1, f2, f3, f4, f5, f6, f7⟩ := cells8R V4.out
      obtain ⟨⟨a0, a1, a2, a3, a4, a5, a6, a7⟩, _⟩ := cells8R V5.out
      have hz4 := lt_of_block V4.out
      have hz5 := lt_of_block V5.out
      go_wp2_with fail
      refine bodyPost_ret (v := .agg #[.int .i64 3, .string ⟨#[]⟩, .int .i64 ty, .int .i64 tn, .string ts, .slice tA tm tc, .slice Au9 0 cu9, .slice none 0 0]) (by simp [results, Tryd.results28, go_sem, c0, c1, c2, c3, c4, c5, c6, c7]) rfl ?_
      rw [GG.out]
      exact finRB ⟨3, ⟨#[]⟩, ty, tn, ts, tA, tm, tc, Au9, 0, cu9, none, 0, 0⟩ HG4.out KK.out RR.out HF.out HA4.out hn4r
    | ok t q =>
      obtain ⟨tof, ru6⟩ := hret
      have TT := Lib.hid tof
      clear tof
      have ST : Hid (u6.heap.size ≤ u6.heap.size) := Lib.hid (Nat.le_refl _)
      have SM : Hid (u5.heap.size ≤ u6.heap.size) := Lib.hid ku6.size
      replace RR := Lib.hid ru6
      replace KK := Lib.hid (KeepR.trans' KK.out ku6)
      replace V4 := Lib.hid ((ku6.block g4 (lt_of_block V4.out) hn4r).trans V4.out)
      replace V5 := Lib.hid ((ku6.block g5 (lt_of_block V5.out) hn5r).trans V5.out)
      clear ku6 ru6
      obtain ⟨⟨c0, c1, c2, c3, c4, c5, c6, c7⟩, f0, f1, f2, f3, f4, f5, f6, f7⟩ := cells8R V5.out
      have hz5 := lt_of_block V5.out
      replace RR := Lib.hid ((((RR.out.setg hn5r HA5.out 2 (.int .i64 ty)).setg hn5r HA5.out 3 (.int .i64 tn)).setg hn5r HA5.out 4 (.string ts)).setg hn5r HA5.out 5 (.slice tA tm tc))
      replace KK := Lib.hid (KeepR.setg (g := g5) (o := 5) (KeepR.setg (g := g5) (o := 4) (KeepR.setg (g := g5) (o := 3) (KeepR.setg (g := g5) (o := 2) KK.out (by have := HG5.out; omega) (.int .i64 ty)) (by have := HG5.out; omega) (.int .i64 tn)) (by have := HG5.out; omega) (.string ts)) (by have := HG5.out; omega) (.slice tA tm tc))
      replace V4 := Lib.hid ((Below.heap_setCell (((u6.setCell ⟨g5, 2, none⟩ (.int .i64 ty)).setCell ⟨g5, 3, none⟩ (.int .i64 tn)).setCell ⟨g5, 4, none⟩ (.string ts)) ⟨g5, 5, none⟩ (.slice tA tm tc) g4 hn45).trans ((Below.heap_setCell ((u6.setCell ⟨g5, 2, none⟩ (.int .i64 ty)).setCell ⟨g5, 3, none⟩ (.int .i64 tn)) ⟨g5, 4, none⟩ (.string ts) g4 hn45).trans ((Below.heap_setCell (u6.setCell ⟨g5, 2, none⟩ (.int .i64 ty)) ⟨g5, 3, none⟩ (.int .i64 tn) g4 hn45).trans ((Below.heap_setCell u6 ⟨g5, 2, none⟩ (.int .i64 ty) g4 hn45).trans V4.out))))
      replace V5 := Lib.hid (s8_t V5.out (.int .i64 ty) (.int .i64 tn) (.string ts) (.slice tA tm tc))
      replace TT := Lib.hid ((((TT.out.set (p := ⟨g5, 2, none⟩) (fun h => by have h1 : u5.heap.size ≤ g5 := h.1; have := SL.out; omega) (.int .i64 ty)).set (p := ⟨g5, 3, none⟩) (fun h => by have h1 : u5.heap.size ≤ g5 := h.1; have := SL.out; omega) (.int .i64 tn)).set (p := ⟨g5, 4, none⟩) (fun h => by have h1 : u5.heap.size ≤ g5 := h.1; have := SL.out; omega) (.string ts)).set (p := ⟨g5, 5, none⟩) (fun h => by have h1 : u5.heap.size ≤ g5 := h.1; have := SL.out; omega) (.slice tA tm tc))
      replace ST : Hid (u6.heap.size ≤ ((((u6.setCell ⟨g5, 2, none⟩ (.int .i64 ty)).setCell ⟨g5, 3, none⟩ (.int .i64 tn)).setCell ⟨g5, 4, none⟩ (.string ts)).setCell ⟨g5, 5, none⟩ (.slice tA tm tc)).heap.size) := Lib.hid (Nat.le_trans ST.out (by simp))
      replace GA : Hid (oneG L n (rdS L n r) 3 i left = nesB L n (rdS L n r) 3 t q left) := Lib.hid (by rw [GA.out, bind_ok])
      go_wp2_with fail
      obtain ⟨u12, hu12⟩ : ∃ x, ((((u6.setCell ⟨g5, 2, none⟩ (.int .i64 ty)).setCell ⟨g5, 3, none⟩ (.int .i64 tn)).setCell ⟨g5, 4, none⟩ (.string ts)).setCell ⟨g5, 5, none⟩ (.slice tA tm tc)) = x := ⟨_, rfl⟩
      rw [hu12] at RR KK V4 V5 TT ST ⊢
      clear hu12 c0 c1 c2 c3 c4 c5 c6 c7 f0 f1 f2 f3 f4 f5 f6 f7 hz5
      refine (rs_take ⟨#[123]⟩ _ rb A c n q L 0 (left : Int) RR.out (by decide)).mono ?_
      rintro e u13 ⟨rfl, ku13, hret⟩
      rcases hret with ⟨ht, ru13⟩ | ⟨ht, ru13⟩
      case inr =>
        have HF : Hid (¬ (3 : Int) = 0) := Lib.hid (by decide)
        have GG : Hid (oneG L n (rdS L n r) 3 i left = .bad 3 (posAt L n q)) := Lib.hid (by rw [GA.out, nesB_bad ht])
        clear ht GA
        replace RR := Lib.hid ru13
        replace KK := Lib.hid (KeepR.trans' KK.out ku13)
        replace V4 := Lib.hid ((ku13.block g4 (lt_of_block V4.out) hn4r).trans V4.out)
        replace V5 := Lib.hid ((ku13.block g5 (lt_of_block V5.out) hn5r).trans V5.out)
        clear ku13 ru13
        go_wp2_with fail
        refine (rs_stmts_fault _ _ rb A c n q L 3 (posAt L n q) (left : Int) RR.out HF.out).mono ?_
        rintro e u14 ⟨Au14, cu14, rfl, bu14⟩
        replace RR := Lib.hid (RR.out.below bu14)
        replace KK := Lib.hid (KeepR.trans' KK.out (KeepR.of_below' bu14))
        replace V4 := Lib.hid ((bu14.block g4 (lt_of_block V4.out)).trans V4.out)
        replace V5 := Lib.hid ((bu14.block g5 (lt_of_block V5.out)).trans V5.out)
        clear bu14
        obtain ⟨⟨c0, c1, c2, c3, c4, c5, c6, c7⟩, f0, f1, f2, f3, f4, f5, f6, f7⟩ := cells8R V5.out
        have hz5 := lt_of_block V5.out
        replace RR := Lib.hid (RR.out.setg hn5r HA5.out 6 (.slice Au14 0 cu14))
        replace KK := Lib.hid (KeepR.setg (g := g5) (o := 6) KK.out (by have := HG5.out; omega) (.slice Au14 0 cu14))
        replace V4 := Lib.hid ((Below.heap_setCell u14 ⟨g5, 6, none⟩ (.slice Au14 0 cu14) g4 hn45).trans V4.out)
        replace V5 := Lib.hid (s8_6 V5.out (.slice Au14 0 cu14))
        go_wp2_with fail
        obtain ⟨u16, hu16⟩ : ∃ x, (u14.setCell ⟨g5, 6, none⟩ (.slice Au14 0 cu14)) = x := ⟨_, rfl⟩
        rw [hu16] at RR KK V4 V5 ⊢
        clear hu16 c0 c1 c2 c3 c4 c5 c6 c7 f0 f1 f2 f3 f4 f5 f6 f7 hz5
        refine (rs_take2 ⟨#[125]⟩ _ rb A c n q L 3 (posAt L n q) (left : Int) RR.out (by decide) HF.out).mono ?_
        rintro e u15 ⟨rfl, bu15⟩
        replace RR := Lib.hid (RR.out.below bu15)
        replace KK := Lib.hid (KeepR.trans' KK.out (KeepR.of_below' bu15))
        replace V4 := Lib.hid ((bu15.block g4 (lt_of_block V4.out)).trans V4.out)
        replace V5 := Lib.hid ((bu15.block g5 (lt_of_block V5.out)).trans V5.out)
        clear bu15
        obtain ⟨⟨c0, c1, c2, c3, c4, c5, c6, c7⟩, f0, f1, f2, f3, f4, f5, f6, f7⟩ := cells8R V4.out
        obtain ⟨⟨a0, a1, a2, a3, a4, a5, a6, a7⟩, _⟩ := cells8R V5.out
        have hz4 := lt_of_block V4.out
        have hz5 := lt_of_block V5.out
        go_wp2_with fail
        refine bodyPost_ret (v := .agg #[.int .i64 3, .string ⟨#[]⟩, .int .i64 ty, .int .i64 tn, .string ts, .slice tA tm tc, .slice Au14 0 cu14, .slice none 0 0]) (by simp [results, Tryd.results28, go_sem, c0, c1, c2, c3, c4, c5, c6, c7]) rfl ?_
        rw [GG.out]
        exact finRB ⟨3, ⟨#[]⟩, ty, tn, ts, tA, tm, tc, Au14, 0, cu14, none, 0, 0⟩ HG4.out KK.out RR.out HF.out HA4.out hn4r
      replace GA : Hid (oneG L n (rdS L n r) 3 i left = (rdS L n r (q + 1) left).bind fun b i2 => nesC L n (rdS L n r) 3 t b i2) := Lib.hid (by rw [GA.out, nesB_open ht])
      clear ht
      replace RR := Lib.hid ru13
      replace KK := Lib.hid (KeepR.trans' KK.out ku13)
      replace V4 := Lib.hid ((ku13.block g4 (lt_of_block V4.out) hn4r).trans V4.out)
      replace V5 := Lib.hid ((ku13.block g5 (lt_of_block V5.out) hn5r).trans V5.out)
      replace TT := Lib.hid (TT.out.keep fun x hx => ku13.block x (Nat.lt_of_lt_of_le hx.2 ST.out) (by have h1 := hx.1; have := SL.out; omega))
      replace ST := Lib.hid (Nat.le_trans ST.out ku13.size)
      clear ku13 ru13
      go_wp2_with fail
      have HTB : Hid (u6.heap.size ≤ u13.heap.size) := Lib.hid ST.out
      have Lb : Hid (g5 < u13.heap.size ∧ rb < u13.heap.size ∧ g4 < u13.heap.size) := Lib.hid ⟨lt_of_block V5.out, RR.out.lt, lt_of_block V4.out⟩
      have hcl := IH.out u13 rb A c n (q + 1) L left HS.out (fun b o e => Nat.lt_of_lt_of_le (HA.out b o e) KK.out.size) (by omega) RR.out
      rw [← HRM.out] at hcl
      refine hcl.mono ?_
      clear hcl
      rintro e u17 ⟨ku17, bA, bm, bc, rfl, hret⟩
      obtain ⟨g, hg⟩ : ∃ g, rdS L n r (q + 1) left = g := ⟨_, rfl⟩
      rw [hg] at hret GA
      cases g with
      | bad fc fp =>
        obtain ⟨hf, qf, lff, ru17⟩ := hret
        have HF := Lib.hid hf
        have GG : Hid (oneG L n (rdS L n r) 3 i left = .bad fc fp) := Lib.hid (by rw [GA.out]; rfl)
        clear hf GA hg
        replace RR := Lib.hid ru17
        replace KK := Lib.hid (KeepR.trans' KK.out ku17)
        replace V4 := Lib.hid ((ku17.block g4 (lt_of_block V4.out) hn4r).trans V4.out)
        replace V5 := Lib.hid ((ku17.block g5 (lt_of_block V5.out) hn5r).trans V5.out)
        clear ku17 ru17
        obtain ⟨⟨c0, c1, c2, c3, c4, c5, c6, c7⟩, f0, f1, f2, f3, f4, f5, f6, f7⟩ := cells8R V5.out
        have hz5 := lt_of_block V5.out
        replace RR := Lib.hid (RR.out.setg hn5r HA5.out 6 (.slice bA bm bc))
        replace KK := Lib.hid (KeepR.setg (g := g5) (o := 6) KK.out (by have := HG5.out; omega) (.slice bA bm bc))
        replace V4 := Lib.hid ((Below.heap_setCell u17 ⟨g5, 6, none⟩ (.slice bA bm bc) g4 hn45).trans V4.out)
        replace V5 := Lib.hid (s8_6 V5.out (.slice bA bm bc))
        go_wp2_with fail
        obtain ⟨u19, hu19⟩ : ∃ x, (u17.setCell ⟨g5, 6, none⟩ (.slice bA bm bc)) = x := ⟨_, rfl⟩
        rw [hu19] at RR KK V4 V5 ⊢
        clear hu19 c0 c1 c2 c3 c4 c5 c6 c7 f0 f1 f2 f3 f4 f5 f6 f7 hz5
        refine (rs_take2 ⟨#[125]⟩ _ rb A c n qf L fc fp lff RR.out (by decide) HF.out).mono ?_
        rintro e u18 ⟨rfl, bu18⟩
        replace RR := Lib.hid (RR.out.below bu18)
        replace KK := Lib.hid (KeepR.trans' KK.out (KeepR.of_below' bu18))
        replace V4 := Lib.hid ((bu18.block g4 (lt_of_block V4.out)).trans V4.out)
        replace V5 := Lib.hid ((bu18.block g5 (lt_of_block V5.out)).trans V5.out)
        clear bu18
        obtain ⟨⟨c0, c1, c2, c3, c4, c5, c6, c7⟩, f0, f1, f2, f3, f4, f5, f6, f7⟩ := cells8R V4.out
        obtain ⟨⟨a0, a1, a2, a3, a4, a5, a6, a7⟩, _⟩ := cells8R V5.out
        have hz4 := lt_of_block V4.out
        have hz5 := lt_of_block V5.out
        go_wp2_with fail
        refine bodyPost_ret (v := .agg #[.int .i64 3, .string ⟨#[]⟩, .int .i64 ty, .int .i64 tn, .string ts, .slice tA tm tc, .slice bA bm bc, .slice none 0 0]) (by simp [results, Tryd.results28, go_sem, c0, c1, c2, c3, c4, c5, c6, c7]) rfl ?_
        rw [GG.out]
        exact finRB ⟨3, ⟨#[]⟩, ty, tn, ts, tA, tm, tc, bA, bm, bc, none, 0, 0⟩ HG4.out KK.out RR.out HF.out HA4.out hn4r
      | ok b qb =>
        obtain ⟨bl, leftb⟩ := b
        obtain ⟨hm, hb1, hb2, row, ru17⟩ := hret
        simp only at hm hb1 row ru17
        subst hm
        have hlb := rdS_left hg
        simp only at hlb
        have Rb := Lib.hid row
        clear row hg
        have Sb : Hid (u17.heap.size ≤ u17.heap.size) := Lib.hid (Nat.le_refl _)
        replace RR := Lib.hid ru17
        replace KK := Lib.hid (KeepR.trans' KK.out ku17)
        replace V4 := Lib.hid ((ku17.block g4 (lt_of_block V4.out) hn4r).trans V4.out)
        replace V5 := Lib.hid ((ku17.block g5 (lt_of_block V5.out) hn5r).trans V5.out)
        replace TT := Lib.hid (TT.out.keep fun x hx => ku17.block x (Nat.lt_of_lt_of_le hx.2 ST.out) (by have h1 := hx.1; have := SL.out; omega))
        replace ST := Lib.hid (Nat.le_trans ST.out ku17.size)
        clear ku17 ru17
        obtain ⟨⟨c0, c1, c2, c3, c4, c5, c6, c7⟩, f0, f1, f2, f3, f4, f5, f6, f7⟩ := cells8R V5.out
        have hz5 := lt_of_block V5.out
        replace RR := Lib.hid (RR.out.setg hn5r HA5.out 6 (.slice bA bl.length bc))
        replace KK := Lib.hid (KeepR.setg (g := g5) (o := 6) KK.out (by have := HG5.out; omega) (.slice bA bl.length bc))
        replace V4 := Lib.hid ((Below.heap_setCell u17 ⟨g5, 6, none⟩ (.slice bA bl.length bc) g4 hn45).trans V4.out)
        replace V5 := Lib.hid (s8_6 V5.out (.slice bA bl.length bc))
        replace TT := Lib.hid (TT.out.set (p := ⟨g5, 6, none⟩) (fun h => by have h1 : u5.heap.size ≤ g5 := h.1; have := SL.out; omega) (.slice bA bl.length bc))
        replace ST : Hid (u6.heap.size ≤ (u17.setCell ⟨g5, 6, none⟩ (.slice bA bl.length bc)).heap.size) := Lib.hid (Nat.le_trans ST.out (by simp))
        replace Rb := Lib.hid (Rb.out.set (p := ⟨g5, 6, none⟩) (fun h => by have h1 : u13.heap.size ≤ g5 := h.1; have := Lb.out; omega) (.slice bA bl.length bc))
        replace Sb : Hid (u17.heap.size ≤ (u17.setCell ⟨g5, 6, none⟩ (.slice bA bl.length bc)).heap.size) := Lib.hid (Nat.le_trans Sb.out (by simp))
        replace GA : Hid (oneG L n (rdS L n r) 3 i left = nesC L n (rdS L n r) 3 t (bl, leftb) qb) := Lib.hid (by rw [GA.out, bind_ok])
        go_wp2_with fail
        obtain ⟨u20, hu20⟩ : ∃ x, (u17.setCell ⟨g5, 6, none⟩ (.slice bA bl.length bc)) = x := ⟨_, rfl⟩
        rw [hu20] at RR KK V4 V5 TT ST Rb Sb ⊢
        clear hu20 c0 c1 c2 c3 c4 c5 c6 c7 f0 f1 f2 f3 f4 f5 f6 f7 hz5
        refine (rs_take ⟨#[125]⟩ _ rb A c n qb L 0 (leftb : Int) RR.out (by decide)).mono ?_
        rintro e u21 ⟨rfl, ku21, hret⟩
        rcases hret with ⟨ht, ru21⟩ | ⟨ht, ru21⟩
        case inr =>
          have HF : Hid (¬ (3 : Int) = 0) := Lib.hid (by decide)
          have GG : Hid (oneG L n (rdS L n r) 3 i left = .bad 3 (posAt L n qb)) := Lib.hid (by rw [GA.out, nesC_bad ht])
          clear ht GA
          replace RR := Lib.hid ru21
          replace KK := Lib.hid (KeepR.trans' KK.out ku21)
          replace V4 := Lib.hid ((ku21.block g4 (lt_of_block V4.out) hn4r).trans V4.out)
          replace V5 := Lib.hid ((ku21.block g5 (lt_of_block V5.out) hn5r).trans V5.out)
          clear ku21 ru21
          obtain ⟨⟨c0, c1, c2, c3, c4, c5, c6, c7⟩, f0, f1, f2, f3, f4, f5, f6, f7⟩ := cells8R V4.out
          obtain ⟨⟨a0, a1, a2, a3, a4, a5, a6, a7⟩, _⟩ := cells8R V5.out
          have hz4 := lt_of_block V4.out
          have hz5 := lt_of_block V5.out
          go_wp2_with fail
          refine bodyPost_ret (v := .agg #[.int .i64 3, .string ⟨#[]⟩, .int .i64 ty, .int .i64 tn, .string ts, .slice tA tm tc, .slice bA bl.length bc, .slice none 0 0]) (by simp [results, Tryd.results28, go_sem, c0, c1, c2, c3, c4, c5, c6, c7]) rfl ?_
          rw [GG.out]
          exact finRB ⟨3, ⟨#[]⟩, ty, tn, ts, tA, tm, tc, bA, bl.length, bc, none, 0, 0⟩ HG4.out KK.out RR.out HF.out HA4.out hn4r
        replace GA : Hid (oneG L n (rdS L n r) 3 i left = nesE L n (rdS L n r) 3 t (bl, leftb) (qb + 1)) := Lib.hid (by rw [GA.out, nesC_ok ht])
        clear ht
        replace RR := Lib.hid ru21
        replace KK := Lib.hid (KeepR.trans' KK.out ku21)
        replace V4 := Lib.hid ((ku21.block g4 (lt_of_block V4.out) hn4r).trans V4.out)
        replace V5 := Lib.hid ((ku21.block g5 (lt_of_block V5.out) hn5r).trans V5.out)
        replace TT := Lib.hid (TT.out.keep fun x hx => ku21.block x (Nat.lt_of_lt_of_le hx.2 ST.out) (by have h1 := hx.1; have := SL.out; omega))
        replace ST := Lib.hid (Nat.le_trans ST.out ku21.size)
        replace Rb := Lib.hid (Rb.out.keep fun x hx => ku21.block x (Nat.lt_of_lt_of_le hx.2 Sb.out) (by have h1 := hx.1; have := Lb.out; omega))
        replace Sb := Lib.hid (Nat.le_trans Sb.out ku21.size)
        clear ku21 ru21
        have GG : Hid (oneG L n (rdS L n r) 3 i left = .ok (.mk 3 ⟨#[]⟩ t bl [], leftb) (qb + 1)) := Lib.hid (by rw [GA.out, nesE_three])
        clear GA
        obtain ⟨⟨c0, c1, c2, c3, c4, c5, c6, c7⟩, f0, f1, f2, f3, f4, f5, f6, f7⟩ := cells8R V4.out
        obtain ⟨⟨a0, a1, a2, a3, a4, a5, a6, a7⟩, _⟩ := cells8R V5.out
        have hz4 := lt_of_block V4.out
        have hz5 := lt_of_block V5.out
        go_wp2_with fail
        refine bodyPost_ret (v := .agg #[.int .i64 3, .string ⟨#[]⟩, .int .i64 ty, .int .i64 tn, .string ts, .slice tA tm tc, .slice bA bl.length bc, .slice none 0 0]) (by simp [results, Tryd.results28, go_sem, c0, c1, c2, c3, c4, c5, c6, c7]) rfl ?_
        rw [GG.out]
        exact finRO (F := fun b => Made u5 u6 b ∨ Made u13 u17 b) ⟨3, ⟨#[]⟩, ty, tn, ts, tA, tm, tc, bA, bl.length, bc, none, 0, 0⟩ HG4.out KK.out RR.out HA4.out hn4r (StO.mk' (T := Made u5 u6) (B := Made u13 u17) (E := fun _ => False) (show i64in 3 from by unfold i64in; omega) (Nat.zero_le _) TT.out rfl hb1 hb2 Rb.out rfl (Nat.le_refl _) (Nat.zero_le _) stRowO_nilR (fun _ h => .inl h) (fun _ h => .inr h) (fun _ h => h.elim) (fun b h1 h2 => by have := h1.2; have := h2.1; have := HTB.out; omega) (fun _ _ h => h) (fun _ _ h => h)) (fun b h => by rcases h with h | h; all_goals (have h1 := h.1; have h2 := h.2; have := ST.out; have := SL.out; have := Sb.out; have := Lb.out; have := HG5.out; constructor <;> omega))
set_option maxHeartbeats 6400000 in
set_option maxRecDepth 100000 in
theorem rs_stmt_nes2 (r : Nat) (hr6 : r ≤ 6) (ih : SpSC r) (w : World) (rb : Nat) (A : Option Addr) (c n i : Nat) (L : List Sg) (left : Nat) (hs : SgsOk L) (hA : ∀ b o, A = some ⟨b, o, none⟩ → b < w.heap.size) (room : Int) (hl : left + 1 ≤ 60) (h : RsAt w rb A c n i L 0 0 ((left + 1 : Nat) : Int)) (hrm : room - 1 = (r : Int)) (hw : wordOf L i = 2) :
    Calls Tryd.prog 28 #[.pointer (some ⟨rb, 0, none⟩), .int .i64 room] w fun e w' => GsS1 w w' rb A c n L (oneG L n (rdS L n r) 2 i left) e := by
  have IH := Lib.hid ih
  clear ih
  obtain ⟨lf, hlf⟩ : ∃ lf : Int, ((left + 1 : Nat) : Int) = lf := ⟨_, rfl⟩
  rw [hlf] at h
  have HLF : Hid (lf - 1 = (left : Int)) := Lib.hid (by omega)
  have hlf0 : (lf == 0) = false := beq_eq_false_iff_ne.2 (by omega)
  have hlf1 : 1 ≤ lf := by omega
  have hlf2 : lf ≤ 60 := by omega
  clear hlf
  have HWK := Lib.hid hw
  have HTX := Lib.hid (wd_word (by decide) hw).1
  have HNM := Lib.hid (wd_word (by decide) hw).2.2
  have hlt := wordOf_lt (L := L) (i := i) (by rw [hw]; omega)
  have HRM := Lib.hid hrm
  have hr0 : (room == 0) = false := beq_eq_false_iff_ne.2 (by omega)
  have hrA : 1 ≤ room := by omega
  have hrB : room ≤ 60 := by omega
  clear hrm
  have HI : Hid (decide (tx L i = ⟨#[105, 102]⟩) = true) := Lib.hid (decide_eq_true (wd_word (by omega) hw).1)
  clear hw
  have RR := Lib.hid h
  have HS := Lib.hid hs
  have HA := Lib.hid hA
  have hrb := h.lt
  have hi6 := h.hi
  have hL6 := h.hL
  clear h hs hA
  go_enter Tryd.func28, Tryd.ntmps28
  go_wp2_with fail
  have BA : Hid (Below w.heap.size w ((w.alloc (.cells #[.int .i64 0, .string ByteArray.empty, .int .i64 0, .int .i64 0, .string ByteArray.empty, .slice none 0 0, .slice none 0 0, .slice none 0 0] 67)).alloc (.cells #[.int .i64 0, .string ⟨#[]⟩, .int .i64 0, .int .i64 0, .string ⟨#[]⟩, .slice none 0 0, .slice none 0 0, .slice none 0 0] 67))) := Lib.hid (Below.alloc (Below.alloc (Below.refl _ _) (Nat.le_refl _) _) (by simp) _)
  have V4 : Hid (((w.alloc (.cells #[.int .i64 0, .string ByteArray.empty, .int .i64 0, .int .i64 0, .string ByteArray.empty, .slice none 0 0, .slice none 0 0, .slice none 0 0] 67)).alloc (.cells #[.int .i64 0, .string ⟨#[]⟩, .int .i64 0, .int .i64 0, .string ⟨#[]⟩, .slice none 0 0, .slice none 0 0, .slice none 0 0] 67)).heap[w.heap.size]? = some (.cells #[.int .i64 0, .string ⟨#[]⟩, .int .i64 0, .int .i64 0, .string ⟨#[]⟩, .slice none 0 0, .slice none 0 0, .slice none 0 0] 67 (0, 0))) := Lib.hid ((heap_alloc_lt (by simp)).trans (heap_alloc_new _ _))
  have V5 : Hid (((w.alloc (.cells #[.int .i64 0, .string ByteArray.empty, .int .i64 0, .int .i64 0, .string ByteArray.empty, .slice none 0 0, .slice none 0 0, .slice none 0 0] 67)).alloc (.cells #[.int .i64 0, .string ⟨#[]⟩, .int .i64 0, .int .i64 0, .string ⟨#[]⟩, .slice none 0 0, .slice none 0 0, .slice none 0 0] 67)).heap[w.heap.size + 1]? = some (.cells #[.int .i64 0, .string ⟨#[]⟩, .int .i64 0, .int .i64 0, .string ⟨#[]⟩, .slice none 0 0, .slice none 0 0, .slice none 0 0] 67 (0, 0))) := Lib.hid (by have := heap_alloc_new (w.alloc (.cells #[.int .i64 0, .string ByteArray.empty, .int .i64 0, .int .i64 0, .string ByteArray.empty, .slice none 0 0, .slice none 0 0, .slice none 0 0] 67)) (.cells #[.int .i64 0, .string ⟨#[]⟩, .int .i64 0, .int .i64 0, .string ⟨#[]⟩, .slice none 0 0, .slice none 0 0, .slice none 0 0] 67); simpa using this)
  obtain ⟨wa, hwa⟩ : ∃ wa, ((w.alloc (.cells #[.int .i64 0, .string ByteArray.empty, .int .i64 0, .int .i64 0, .string ByteArray.empty, .slice none 0 0, .slice none 0 0, .slice none 0 0] 67)).alloc (.cells #[.int .i64 0, .string ⟨#[]⟩, .int .i64 0, .int .i64 0, .string ⟨#[]⟩, .slice none 0 0, .slice none 0 0, .slice none 0 0] 67)) = wa := ⟨_, rfl⟩
  have hza : wa.heap.size = w.heap.size + 2 := by rw [← hwa]; simp
  have hwa2 : ((w.alloc (.cells #[.int .i64 0, .string ⟨#[]⟩, .int .i64 0, .int .i64 0, .string ⟨#[]⟩, .slice none 0 0, .slice none 0 0, .slice none 0 0] 67)).alloc (.cells #[.int .i64 0, .string ⟨#[]⟩, .int .i64 0, .int .i64 0, .string ⟨#[]⟩, .slice none 0 0, .slice none 0 0, .slice none 0 0] 67)) = wa := hwa
  have hwa3 : ((w.alloc (.cells #[.int .i64 0, .string ByteArray.empty, .int .i64 0, .int .i64 0, .string ByteArray.empty, .slice none 0 0, .slice none 0 0, .slice none 0 0] 67)).alloc (.cells #[.int .i64 0, .string ByteArray.empty, .int .i64 0, .int .i64 0, .string ByteArray.empty, .slice none 0 0, .slice none 0 0, .slice none 0 0] 67)) = wa := hwa
  (first | rw [hwa] | rw [hwa2] | rw [hwa3])
  rw [hwa] at BA V4 V5
  clear hwa hwa2 hwa3
  replace RR := Lib.hid (RR.out.below BA.out)
  have KK : Hid (KeepR rb w wa) := Lib.hid (KeepR.of_below' BA.out)
  obtain ⟨g4, hg4⟩ : ∃ g, w.heap.size = g := ⟨_, rfl⟩
  obtain ⟨g5, hg5⟩ : ∃ g, w.heap.size + 1 = g := ⟨_, rfl⟩
  have HG4 := Lib.hid hg4
  have HG5 := Lib.hid hg5
  have hn45 : ¬ g4 = g5 := by omega
  have hn54 : ¬ g5 = g4 := by omega
  have hn4r : ¬ g4 = rb := by omega
  have hnr4 : ¬ rb = g4 := by omega
  have hn5r : ¬ g5 = rb := by omega
  have hnr5 : ¬ rb = g5 := by omega
  have HA4 : Hid (∀ b o, A = some ⟨b, o, none⟩ → b ≠ g4) := Lib.hid (fun b o e => by have := HA.out b o e; omega)
  have HA5 : Hid (∀ b o, A = some ⟨b, o, none⟩ → b ≠ g5) := Lib.hid (fun b o e => by have := HA.out b o e; omega)
  rw [hg4] at V4
  rw [hg5] at V5
  (try rw [hg5])
  (try rw [hg4])
  clear hg4 hg5 BA
  refine (rs_is ⟨#[105, 102]⟩ _ rb A c n i L 0 0 lf RR.out (by decide)).mono ?_
  rintro e u1 ⟨rfl, bu1⟩
  rw [kd1, HI.out]
  replace RR := Lib.hid (RR.out.below bu1)
  replace KK := Lib.hid (KeepR.trans' KK.out (KeepR.of_below' bu1))
  replace V4 := Lib.hid ((bu1.block g4 (lt_of_block V4.out)).trans V4.out)
  replace V5 := Lib.hid ((bu1.block g5 (lt_of_block V5.out)).trans V5.out)
  clear bu1
  obtain ⟨_, p1, _, p3, _, p5⟩ := RR.out.cs
  have fr := RR.out.fz 5
  have hrl := RR.out.lt
  replace RR := Lib.hid (RR.out.setl (lf - 1))
  replace KK := Lib.hid (KeepR.setr (o := 5) KK.out (.int .i64 (lf - 1)))
  replace V4 := Lib.hid ((Below.heap_setCell u1 ⟨rb, 5, none⟩ (.int .i64 (lf - 1)) g4 hn4r).trans V4.out)
  replace V5 := Lib.hid ((Below.heap_setCell u1 ⟨rb, 5, none⟩ (.int .i64 (lf - 1)) g5 hn5r).trans V5.out)
  go_wp2_with fail
  obtain ⟨u2, hu2⟩ : ∃ x, (u1.setCell ⟨rb, 5, none⟩ (.int .i64 (lf - 1))) = x := ⟨_, rfl⟩
  rw [hu2] at RR KK V4 V5 ⊢
  clear hu2 p1 p3 p5 fr hrl
  replace RR : Hid (RsAt u2 rb A c n i L 0 0 (left : Int)) := Lib.hid (by rw [← HLF.out]; exact RR.out)
  refine (rs_named _ rb A c n i L 0 0 (left : Int) RR.out HS.out).mono ?_
  rintro e u3 ⟨rfl, bu3⟩
  rw [kd2, HNM.out]
  replace RR := Lib.hid (RR.out.below bu3)
  replace KK := Lib.hid (KeepR.trans' KK.out (KeepR.of_below' bu3))
  replace V4 := Lib.hid ((bu3.block g4 (lt_of_block V4.out)).trans V4.out)
  replace V5 := Lib.hid ((bu3.block g5 (lt_of_block V5.out)).trans V5.out)
  clear bu3
  go_wp2_with fail
  go_loopw [7] (fun iv wr => ∃ j : Nat, 2 ≤ j ∧ j ≤ 9 ∧ iv = .int .i64 (j : Int) ∧ Hid (KeepR g5 u3 wr ∧ wr.heap[g5]? = some (.cells #[.int .i64 (kdAt (2 : Int) j), .string ⟨#[]⟩, .int .i64 0, .int .i64 0, .string ⟨#[]⟩, .slice none 0 0, .slice none 0 0, .slice none 0 0] 67 (0, 0)))) (fun iv _ => 10 - (intOf iv).toNat)
  case atStart => exact ⟨2, Nat.le_refl _, by omega, rfl, Lib.hid ⟨Keep.refl _ _, by rw [kdAt_two' (by omega)]; exact V5.out⟩⟩
  case round =>
    rename World => wr
    obtain ⟨jj, hj2, hj9, rfl, HB⟩ := hrel
    by_cases hlt' : jj < 9
    · have h0 : (jj : Int) ≤ 8 := by omega
      have HKJ : Hid ((jj : Int) = 2 ∨ (jj : Int) = 3 ∨ (jj : Int) = 4 ∨ (jj : Int) = 5 ∨ (jj : Int) = 6 ∨ (jj : Int) = 7 ∨ (jj : Int) = 8) := Lib.hid (by omega)
      go_wp2_with fail
      refine (spec_wordK (jj : Int) HKJ.out _).mono ?_
      rintro e wa ⟨rfl, ba⟩
      have HBa : Hid (KeepR g5 u3 wa ∧ wa.heap[g5]? = some (.cells #[.int .i64 (kdAt (2 : Int) jj), .string ⟨#[]⟩, .int .i64 0, .int .i64 0, .string ⟨#[]⟩, .slice none 0 0, .slice none 0 0, .slice none 0 0] 67 (0, 0))) := Lib.hid ⟨HB.out.1.trans' (KeepR.of_below' ba), (ba.block g5 (lt_of_block HB.out.2)).trans HB.out.2⟩
      clear ba
      go_wp2_with fail
      refine (rs_is (wdB (jj : Int)) _ rb A c n i L 0 0 (left : Int) (RR.out.keepS HBa.out.1 (by show rb ≠ g5; exact hnr5) (fun b' o' e => ⟨HA5.out b' o' e, Nat.lt_of_lt_of_le (HA.out b' o' e) KK.out.size⟩)) (wdB_ne _)).mono ?_
      rintro e wb ⟨rfl, bb⟩
      have HBb : Hid (KeepR g5 u3 wb ∧ wb.heap[g5]? = some (.cells #[.int .i64 (kdAt (2 : Int) jj), .string ⟨#[]⟩, .int .i64 0, .int .i64 0, .string ⟨#[]⟩, .slice none 0 0, .slice none 0 0, .slice none 0 0] 67 (0, 0))) := Lib.hid ⟨HBa.out.1.trans' (KeepR.of_below' bb), (bb.block g5 (lt_of_block HBa.out.2)).trans HBa.out.2⟩
      clear bb
      by_cases hyes : tx L i = wdB (jj : Int)
      · rw [show (decide ((0 : Int) = 0) && decide (tx L i = wdB (jj : Int))) = true from by rw [decide_eq_true hyes]; rfl]
        have hkd : (2 : Int) = (jj : Int) := by
          have h1 := word_wd (L := L) (k := (jj : Int)) ⟨by omega, by omega⟩ hyes
          rw [HWK.out] at h1
          exact h1
        obtain ⟨⟨c0, c1, c2, c3, c4, c5, c6, c7⟩, f0, f1, f2, f3, f4, f5, f6, f7⟩ := cells8R HBb.out.2
        have hzb := lt_of_block HBb.out.2
        go_wp2_with fail
        go_roundw
        case rel => exact ⟨jj + 1, by omega, by omega, by go_num, Lib.hid ⟨HBb.out.1.setCell (p := ⟨g5, 0, none⟩) (by simp) _, by rw [kdAt_hit hkd]; exact s8_0 HBb.out.2 _⟩⟩
        case measure => simp [intOf]; omega
      · rw [show (decide ((0 : Int) = 0) && decide (tx L i = wdB (jj : Int))) = false from by rw [decide_eq_false hyes]; rfl]
        have hkd : (2 : Int) ≠ (jj : Int) := fun e => hyes (e ▸ HTX.out)
        go_wp2_with fail
        go_roundw
        case rel => exact ⟨jj + 1, by omega, by omega, by go_num, Lib.hid ⟨HBb.out.1, by rw [kdAt_step hkd]; exact HBb.out.2⟩⟩
        case measure => simp [intOf]; omega
    have h0 : ¬ (jj : Int) ≤ 8 := by omega
    obtain rfl : jj = 9 := by omega
    replace RR := Lib.hid (RR.out.keepS HB.out.1 (by show rb ≠ g5; exact hnr5) (fun b' o' e => ⟨HA5.out b' o' e, Nat.lt_of_lt_of_le (HA.out b' o' e) KK.out.size⟩))
    replace V4 := Lib.hid ((HB.out.1.block g4 (lt_of_block V4.out) (by show g4 ≠ g5; exact hn45)).trans V4.out)
    replace KK : Hid (KeepR rb w wr) := Lib.hid (KK.out.trans HB.out.1 (fun b hb _ => by show b ≠ g5; have := HG5.out; omega))
    replace V5 : Hid (wr.heap[g5]? = some (.cells #[.int .i64 2, .string ⟨#[]⟩, .int .i64 0, .int .i64 0, .string ⟨#[]⟩, .slice none 0 0, .slice none 0 0, .slice none 0 0] 67 (0, 0))) := Lib.hid (by have h := HB.out.2; rw [kdAt_nine' (by omega)] at h; exact h)
    clear HB
    obtain ⟨⟨c0, c1, c2, c3, c4, c5, c6, c7⟩, f0, f1, f2, f3, f4, f5, f6, f7⟩ := cells8R V5.out
    have hz5 := lt_of_block V5.out
    obtain ⟨_, p1, _, p3, _, p5⟩ := RR.out.cs
    have fr := RR.out.fz 1
    have hrl := RR.out.lt
    replace RR := Lib.hid (RR.out.seti (by omega))
    replace KK := Lib.hid (KeepR.setr (o := 1) KK.out (.int .i64 ((i : Int) + 1)))
    replace V4 := Lib.hid ((Below.heap_setCell wr ⟨rb, 1, none⟩ (.int .i64 ((i : Int) + 1)) g4 hn4r).trans V4.out)
    replace V5 := Lib.hid ((Below.heap_setCell wr ⟨rb, 1, none⟩ (.int .i64 ((i : Int) + 1)) g5 hn5r).trans V5.out)
    go_wp2_with fail
    obtain ⟨u4, hu4⟩ : ∃ x, (wr.setCell ⟨rb, 1, none⟩ (.int .i64 ((i : Int) + 1))) = x := ⟨_, rfl⟩
    rw [hu4] at RR KK V4 V5 ⊢
    clear hu4 p1 p3 p5 fr hrl
    clear c0 c1 c2 c3 c4 c5 c6 c7 f0 f1 f2 f3 f4 f5 f6 f7 hz5
    have GA : Hid (oneG L n (rdS L n r) 2 i left = (rdT L n 6 (i + 1)).bind fun t i1 => nesB L n (rdS L n r) 2 t i1 left) := Lib.hid (oneG_nes (by decide))
    have SL : Hid (g5 < u4.heap.size ∧ rb < u4.heap.size ∧ g4 < u4.heap.size) := Lib.hid ⟨lt_of_block V5.out, RR.out.lt, lt_of_block V4.out⟩
    have hcl := rs_term_all 6 (Nat.le_refl _) u4 rb A c n (i + 1) L (left : Int) HS.out (fun b o e => Nat.lt_of_lt_of_le (HA.out b o e) KK.out.size) RR.out
    rw [show (((6 : Nat) : Int)) = 6 from rfl] at hcl
    refine hcl.mono ?_
    clear hcl
    rintro e u5 ⟨ku5, ty, tn, ts, tA, tm, tc, rfl, hret⟩
    generalize rdT L n 6 (i + 1) = g at *
    cases g with
    | bad fc fp =>
      obtain ⟨hf, q, ru5⟩ := hret
      have HF := Lib.hid hf
      have GG : Hid (oneG L n (rdS L n r) 2 i left = .bad fc fp) := Lib.hid (by rw [GA.out]; rfl)
      clear hf GA
      replace RR := Lib.hid ru5
      replace KK := Lib.hid (KeepR.trans' KK.out ku5)
      replace V4 := Lib.hid ((ku5.block g4 (lt_of_block V4.out) hn4r).trans V4.out)
      replace V5 := Lib.hid ((ku5.block g5 (lt_of_block V5.out) hn5r).trans V5.out)
      clear ku5 ru5
      obtain ⟨⟨c0, c1, c2, c3, c4, c5, c6, c7⟩, f0, f1, f2, f3, f4, f5, f6, f7⟩ := cells8R V5.out
      have hz5 := lt_of_block V5.out
      replace RR := Lib.hid ((((RR.out.setg hn5r HA5.out 2 (.int .i64 ty)).setg hn5r HA5.out 3 (.int .i64 tn)).setg hn5r HA5.out 4 (.string ts)).setg hn5r HA5.out 5 (.slice tA tm tc))
      replace KK := Lib.hid (KeepR.setg (g := g5) (o := 5) (KeepR.setg (g := g5) (o := 4) (KeepR.setg (g := g5) (o := 3) (KeepR.setg (g := g5) (o := 2) KK.out (by have := HG5.out; omega) (.int .i64 ty)) (by have := HG5.out; omega) (.int .i64 tn)) (by have := HG5.out; omega) (.string ts)) (by have := HG5.out; omega) (.slice tA tm tc))
      replace V4 := Lib.hid ((Below.heap_setCell (((u5.setCell ⟨g5, 2, none⟩ (.int .i64 ty)).setCell ⟨g5, 3, none⟩ (.int .i64 tn)).setCell ⟨g5, 4, none⟩ (.string ts)) ⟨g5, 5, none⟩ (.slice tA tm tc) g4 hn45).trans ((Below.heap_setCell ((u5.setCell ⟨g5, 2, none⟩ (.int .i64 ty)).setCell ⟨g5, 3, none⟩ (.int .i64 tn)) ⟨g5, 4, none⟩ (.string ts) g4 hn45).trans ((Below.heap_setCell (u5.setCell ⟨g5, 2, none⟩ (.int .i64 ty)) ⟨g5, 3, none⟩ (.int .i64 tn) g4 hn45).trans ((Below.heap_setCell u5 ⟨g5, 2, none⟩ (.int .i64 ty) g4 hn45).trans V4.out))))
      replace V5 := Lib.hid (s8_t V5.out (.int .i64 ty) (.int .i64 tn) (.string ts) (.slice tA tm tc))
      go_wp2_with fail
      obtain ⟨u7, hu7⟩ : ∃ x, ((((u5.setCell ⟨g5, 2, none⟩ (.int .i64 ty)).setCell ⟨g5, 3, none⟩ (.int .i64 tn)).setCell ⟨g5, 4, none⟩ (.string ts)).setCell ⟨g5, 5, none⟩ (.slice tA tm tc)) = x := ⟨_, rfl⟩
      rw [hu7] at RR KK V4 V5 ⊢
      clear hu7 c0 c1 c2 c3 c4 c5 c6 c7 f0 f1 f2 f3 f4 f5 f6 f7 hz5
      refine (rs_take2 ⟨#[123]⟩ _ rb A c n q L fc fp (left : Int) RR.out (by decide) HF.out).mono ?_
      rintro e u6 ⟨rfl, bu6⟩
      replace RR := Lib.hid (RR.out.below bu6)
      replace KK := Lib.hid (KeepR.trans' KK.out (KeepR.of_below' bu6))
      replace V4 := Lib.hid ((bu6.block g4 (lt_of_block V4.out)).trans V4.out)
      replace V5 := Lib.hid ((bu6.block g5 (lt_of_block V5.out)).trans V5.out)
      clear bu6
      go_wp2_with fail
      refine (rs_stmts_fault _ _ rb A c n q L fc fp (left : Int) RR.out HF.out).mono ?_
      rintro e u8 ⟨Au8, cu8, rfl, bu8⟩
      replace RR := Lib.hid (RR.out.below bu8)
      replace KK := Lib.hid (KeepR.trans' KK.out (KeepR.of_below' bu8))
      replace V4 := Lib.hid ((bu8.block g4 (lt_of_block V4.out)).trans V4.out)
      replace V5 := Lib.hid ((bu8.block g5 (lt_of_block V5.out)).trans V5.out)
      clear bu8
      obtain ⟨⟨c0, c1, c2, c3, c4, c5, c6, c7⟩, f0, f1, f2, f3, f4, f5, f6, f7⟩ := cells8R V5.out
      have hz5 := lt_of_block V5.out
      replace RR := Lib.hid (RR.out.setg hn5r HA5.out 6 (.slice Au8 0 cu8))
      replace KK := Lib.hid (KeepR.setg (g := g5) (o := 6) KK.out (by have := HG5.out; omega) (.slice Au8 0 cu8))
      replace V4 := Lib.hid ((Below.heap_setCell u8 ⟨g5, 6, none⟩ (.slice Au8 0 cu8) g4 hn45).trans V4.out)
      replace V5 := Lib.hid (s8_6 V5.out (.slice Au8 0 cu8))
      go_wp2_with fail
      obtain ⟨u10, hu10⟩ : ∃ x, (u8.setCell ⟨g5, 6, none⟩ (.slice Au8 0 cu8)) = x := ⟨_, rfl⟩
      rw [hu10] at RR KK V4 V5 ⊢
      clear hu10 c0 c1 c2 c3 c4 c5 c6 c7 f0 f1 f2 f3 f4 f5 f6 f7 hz5
      refine (rs_take2 ⟨#[125]⟩ _ rb A c n q L fc fp (left : Int) RR.out (by decide) HF.out).mono ?_
      rintro e u9 ⟨rfl, bu9⟩
      replace RR := Lib.hid (RR.out.below bu9)
      replace KK := Lib.hid (KeepR.trans' KK.out (KeepR.of_below' bu9))
      replace V4 := Lib.hid ((bu9.block g4 (lt_of_block V4.out)).trans V4.out)
      replace V5 := Lib.hid ((bu9.block g5 (lt_of_block V5.out)).trans V5.out)
      clear bu9
      obtain ⟨⟨c0, c1, c2, c3, c4, c5, c6, c7⟩, _⟩ := cells8R V5.out
      go_wp2_with fail
      refine (rs_is_fault ⟨#[101, 108, 115, 101]⟩ _ rb A c n q L fc fp (left : Int) RR.out HF.out).mono ?_
      rintro e u11 ⟨rfl, bu11⟩
      clear c0 c1 c2 c3 c4 c5 c6 c7
      replace RR := Lib.hid (RR.out.below bu11)
      replace KK := Lib.hid (KeepR.trans' KK.out (KeepR.of_below' bu11))
      replace V4 := Lib.hid ((bu11.block g4 (lt_of_block V4.out)).trans V4.out)
      replace V5 := Lib.hid ((bu11.block g5 (lt_of_block V5.out)).trans V5.out)
      clear bu11
      obtain ⟨⟨c0, c1, c2, c3, c4, c5, c6, c7⟩, f0, f1, f2, f3, f4, f5, f6, f7⟩ := cells8R V4.out
      obtain ⟨⟨a0, a1, a2, a3, a4, a5, a6, a7⟩, _⟩ := cells8R V5.out
      have hz4 := lt_of_block V4.out
      have hz5 := lt_of_block V5.out
      go_wp2_with fail
      refine bodyPost_ret (v := .agg #[.int .i64 2, .string ⟨#[]⟩, .int .i64 ty, .int .i64 tn, .string ts, .slice tA tm tc, .slice Au8 0 cu8, .slice none 0 0]) (by simp [results, Tryd.results28, go_sem, c0, c1, c2, c3, c4, c5, c6, c7]) rfl ?_
      rw [GG.out]
      exact finRB ⟨2, ⟨#[]⟩, ty, tn, ts, tA, tm, tc, Au8, 0, cu8, none, 0, 0⟩ HG4.out KK.out RR.out HF.out HA4.out hn4r
    | ok t q =>
      obtain ⟨tof, ru5⟩ := hret
      have TT := Lib.hid tof
      clear tof
      have ST : Hid (u5.heap.size ≤ u5.heap.size) := Lib.hid (Nat.le_refl _)
      have SM : Hid (u4.heap.size ≤ u5.heap.size) := Lib.hid ku5.size
      replace RR := Lib.hid ru5
      replace KK := Lib.hid (KeepR.trans' KK.out ku5)
      replace V4 := Lib.hid ((ku5.block g4 (lt_of_block V4.out) hn4r).trans V4.out)
      replace V5 := Lib.hid ((ku5.block g5 (lt_of_block V5.out) hn5r).trans V5.out)
      clear ku5 ru5
      obtain ⟨⟨c0, c1, c2, c3, c4, c5, c6, c7⟩, f0, f1, f2, f3, f4, f5, f6, f7⟩ := cells8R V5.out
      have hz5 := lt_of_block V5.out
      replace RR := Lib.hid ((((RR.out.setg hn5r HA5.out 2 (.int .i64 ty)).setg hn5r HA5.out 3 (.int .i64 tn)).setg hn5r HA5.out 4 (.string ts)).setg hn5r HA5.out 5 (.slice tA tm tc))
      replace KK := Lib.hid (KeepR.setg (g := g5) (o := 5) (KeepR.setg (g := g5) (o := 4) (KeepR.setg (g := g5) (o := 3) (KeepR.setg (g := g5) (o := 2) KK.out (by have := HG5.out; omega) (.int .i64 ty)) (by have := HG5.out; omega) (.int .i64 tn)) (by have := HG5.out; omega) (.string ts)) (by have := HG5.out; omega) (.slice tA tm tc))
      replace V4 := Lib.hid ((Below.heap_setCell (((u5.setCell ⟨g5, 2, none⟩ (.int .i64 ty)).setCell ⟨g5, 3, none⟩ (.int .i64 tn)).setCell ⟨g5, 4, none⟩ (.string ts)) ⟨g5, 5, none⟩ (.slice tA tm tc) g4 hn45).trans ((Below.heap_setCell ((u5.setCell ⟨g5, 2, none⟩ (.int .i64 ty)).setCell ⟨g5, 3, none⟩ (.int .i64 tn)) ⟨g5, 4, none⟩ (.string ts) g4 hn45).trans ((Below.heap_setCell (u5.setCell ⟨g5, 2, none⟩ (.int .i64 ty)) ⟨g5, 3, none⟩ (.int .i64 tn) g4 hn45).trans ((Below.heap_setCell u5 ⟨g5, 2, none⟩ (.int .i64 ty) g4 hn45).trans V4.out))))
      replace V5 := Lib.hid (s8_t V5.out (.int .i64 ty) (.int .i64 tn) (.string ts) (.slice tA tm tc))
      replace TT := Lib.hid ((((TT.out.set (p := ⟨g5, 2, none⟩) (fun h => by have h1 : u4.heap.size ≤ g5 := h.1; have := SL.out; omega) (.int .i64 ty)).set (p := ⟨g5, 3, none⟩) (fun h => by have h1 : u4.heap.size ≤ g5 := h.1; have := SL.out; omega) (.int .i64 tn)).set (p := ⟨g5, 4, none⟩) (fun h => by have h1 : u4.heap.size ≤ g5 := h.1; have := SL.out; omega) (.string ts)).set (p := ⟨g5, 5, none⟩) (fun h => by have h1 : u4.heap.size ≤ g5 := h.1; have := SL.out; omega) (.slice tA tm tc))
      replace ST : Hid (u5.heap.size ≤ ((((u5.setCell ⟨g5, 2, none⟩ (.int .i64 ty)).setCell ⟨g5, 3, none⟩ (.int .i64 tn)).setCell ⟨g5, 4, none⟩ (.string ts)).setCell ⟨g5, 5, none⟩ (.slice tA tm tc)).heap.size) := Lib.hid (Nat.le_trans ST.out (by simp))
      replace GA : Hid (oneG L n (rdS L n r) 2 i left = nesB L n (rdS L n r) 2 t q left) := Lib.hid (by rw [GA.out, bind_ok])
      go_wp2_with fail
      obtain ⟨u12, hu12⟩ : ∃ x, ((((u5.setCell ⟨g5, 2, none⟩ (.int .i64 ty)).setCell ⟨g5, 3, none⟩ (.int .i64 tn)).setCell ⟨g5, 4, none⟩ (.string ts)).setCell ⟨g5, 5, none⟩ (.slice tA tm tc)) = x := ⟨_, rfl⟩
      rw [hu12] at RR KK V4 V5 TT ST ⊢
      clear hu12 c0 c1 c2 c3 c4 c5 c6 c7 f0 f1 f2 f3 f4 f5 f6 f7 hz5
      refine (rs_take ⟨#[123]⟩ _ rb A c n q L 0 (left : Int) RR.out (by decide)).mono ?_
      rintro e u13 ⟨rfl, ku13, hret⟩
      rcases hret with ⟨ht, ru13⟩ | ⟨ht, ru13⟩
      case inr =>
        have HF : Hid (¬ (3 : Int) = 0) := Lib.hid (by decide)
        have GG : Hid (oneG L n (rdS L n r) 2 i left = .bad 3 (posAt L n q)) := Lib.hid (by rw [GA.out, nesB_bad ht])
        clear ht GA
        replace RR := Lib.hid ru13
        replace KK := Lib.hid (KeepR.trans' KK.out ku13)
        replace V4 := Lib.hid ((ku13.block g4 (lt_of_block V4.out) hn4r).trans V4.out)
        replace V5 := Lib.hid ((ku13.block g5 (lt_of_block V5.out) hn5r).trans V5.out)
        clear ku13 ru13
        go_wp2_with fail
        refine (rs_stmts_fault _ _ rb A c n q L 3 (posAt L n q) (left : Int) RR.out HF.out).mono ?_
        rintro e u14 ⟨Au14, cu14, rfl, bu14⟩
        replace RR := Lib.hid (RR.out.below bu14)
        replace KK := Lib.hid (KeepR.trans' KK.out (KeepR.of_below' bu14))
        replace V4 := Lib.hid ((bu14.block g4 (lt_of_block V4.out)).trans V4.out)
        replace V5 := Lib.hid ((bu14.block g5 (lt_of_block V5.out)).trans V5.out)
        clear bu14
        obtain ⟨⟨c0, c1, c2, c3, c4, c5, c6, c7⟩, f0, f1, f2, f3, f4, f5, f6, f7⟩ := cells8R V5.out
        have hz5 := lt_of_block V5.out
        replace RR := Lib.hid (RR.out.setg hn5r HA5.out 6 (.slice Au14 0 cu14))
        replace KK := Lib.hid (KeepR.setg (g := g5) (o := 6) KK.out (by have := HG5.out; omega) (.slice Au14 0 cu14))
        replace V4 := Lib.hid ((Below.heap_setCell u14 ⟨g5, 6, none⟩ (.slice Au14 0 cu14) g4 hn45).trans V4.out)
        replace V5 := Lib.hid (s8_6 V5.out (.slice Au14 0 cu14))
        go_wp2_with fail
        obtain ⟨u16, hu16⟩ : ∃ x, (u14.setCell ⟨g5, 6, none⟩ (.slice Au14 0 cu14)) = x := ⟨_, rfl⟩
        rw [hu16] at RR KK V4 V5 ⊢
        clear hu16 c0 c1 c2 c3 c4 c5 c6 c7 f0 f1 f2 f3 f4 f5 f6 f7 hz5
        refine (rs_take2 ⟨#[125]⟩ _ rb A c n q L 3 (posAt L n q) (left : Int) RR.out (by decide) HF.out).mono ?_
        rintro e u15 ⟨rfl, bu15⟩
        replace RR := Lib.hid (RR.out.below bu15)
        replace KK := Lib.hid (KeepR.trans' KK.out (KeepR.of_below' bu15))
        replace V4 := Lib.hid ((bu15.block g4 (lt_of_block V4.out)).trans V4.out)
        replace V5 := Lib.hid ((bu15.block g5 (lt_of_block V5.out)).trans V5.out)
        clear bu15
        obtain ⟨⟨c0, c1, c2, c3, c4, c5, c6, c7⟩, _⟩ := cells8R V5.out
        go_wp2_with fail
        refine (rs_is_fault ⟨#[101, 108, 115, 101]⟩ _ rb A c n q L 3 (posAt L n q) (left : Int) RR.out HF.out).mono ?_
        rintro e u17 ⟨rfl, bu17⟩
        clear c0 c1 c2 c3 c4 c5 c6 c7
        replace RR := Lib.hid (RR.out.below bu17)
        replace KK := Lib.hid (KeepR.trans' KK.out (KeepR.of_below' bu17))
        replace V4 := Lib.hid ((bu17.block g4 (lt_of_block V4.out)).trans V4.out)
        replace V5 := Lib.hid ((bu17.block g5 (lt_of_block V5.out)).trans V5.out)
        clear bu17
        obtain ⟨⟨c0, c1, c2, c3, c4, c5, c6, c7⟩, f0, f1, f2, f3, f4, f5, f6, f7⟩ := cells8R V4.out
        obtain ⟨⟨a0, a1, a2, a3, a4, a5, a6, a7⟩, _⟩ := cells8R V5.out
        have hz4 := lt_of_block V4.out
        have hz5 := lt_of_block V5.out
        go_wp2_with fail
        refine bodyPost_ret (v := .agg #[.int .i64 2, .string ⟨#[]⟩, .int .i64 ty, .int .i64 tn, .string ts, .slice tA tm tc, .slice Au14 0 cu14, .slice none 0 0]) (by simp [results, Tryd.results28, go_sem, c0, c1, c2, c3, c4, c5, c6, c7]) rfl ?_
        rw [GG.out]
        exact finRB ⟨2, ⟨#[]⟩, ty, tn, ts, tA, tm, tc, Au14, 0, cu14, none, 0, 0⟩ HG4.out KK.out RR.out HF.out HA4.out hn4r
      replace GA : Hid (oneG L n (rdS L n r) 2 i left = (rdS L n r (q + 1) left).bind fun b i2 => nesC L n (rdS L n r) 2 t b i2) := Lib.hid (by rw [GA.out, nesB_open ht])
      clear ht
      replace RR := Lib.hid ru13
      replace KK := Lib.hid (KeepR.trans' KK.out ku13)
      replace V4 := Lib.hid ((ku13.block g4 (lt_of_block V4.out) hn4r).trans V4.out)
      replace V5 := Lib.hid ((ku13.block g5 (lt_of_block V5.out) hn5r).trans V5.out)
      replace TT := Lib.hid (TT.out.keep fun x hx => ku13.block x (Nat.lt_of_lt_of_le hx.2 ST.out) (by have h1 := hx.1; have := SL.out; omega))
      replace ST := Lib.hid (Nat.le_trans ST.out ku13.size)
      clear ku13 ru13
      go_wp2_with fail
      have HTB : Hid (u5.heap.size ≤ u13.heap.size) := Lib.hid ST.out
      have Lb : Hid (g5 < u13.heap.size ∧ rb < u13.heap.size ∧ g4 < u13.heap.size) := Lib.hid ⟨lt_of_block V5.out, RR.out.lt, lt_of_block V4.out⟩
      have hcl := IH.out u13 rb A c n (q + 1) L left HS.out (fun b o e => Nat.lt_of_lt_of_le (HA.out b o e) KK.out.size) (by omega) RR.out
      rw [← HRM.out] at hcl
      refine hcl.mono ?_
      clear hcl
      rintro e u18 ⟨ku18, bA, bm, bc, rfl, hret⟩
      obtain ⟨g, hg⟩ : ∃ g, rdS L n r (q + 1) left = g := ⟨_, rfl⟩
      rw [hg] at hret GA
      cases g with
      | bad fc fp =>
        obtain ⟨hf, qf, lff, ru18⟩ := hret
        have HF := Lib.hid hf
        have GG : Hid (oneG L n (rdS L n r) 2 i left = .bad fc fp) := Lib.hid (by rw [GA.out]; rfl)
        clear hf GA hg
        replace RR := Lib.hid ru18
        replace KK := Lib.hid (KeepR.trans' KK.out ku18)
        replace V4 := Lib.hid ((ku18.block g4 (lt_of_block V4.out) hn4r).trans V4.out)
        replace V5 := Lib.hid ((ku18.block g5 (lt_of_block V5.out) hn5r).trans V5.out)
        clear ku18 ru18
        obtain ⟨⟨c0, c1, c2, c3, c4, c5, c6, c7⟩, f0, f1, f2, f3, f4, f5, f6, f7⟩ := cells8R V5.out
        have hz5 := lt_of_block V5.out
        replace RR := Lib.hid (RR.out.setg hn5r HA5.out 6 (.slice bA bm bc))
        replace KK := Lib.hid (KeepR.setg (g := g5) (o := 6) KK.out (by have := HG5.out; omega) (.slice bA bm bc))
        replace V4 := Lib.hid ((Below.heap_setCell u18 ⟨g5, 6, none⟩ (.slice bA bm bc) g4 hn45).trans V4.out)
        replace V5 := Lib.hid (s8_6 V5.out (.slice bA bm bc))
        go_wp2_with fail
        obtain ⟨u20, hu20⟩ : ∃ x, (u18.setCell ⟨g5, 6, none⟩ (.slice bA bm bc)) = x := ⟨_, rfl⟩
        rw [hu20] at RR KK V4 V5 ⊢
        clear hu20 c0 c1 c2 c3 c4 c5 c6 c7 f0 f1 f2 f3 f4 f5 f6 f7 hz5
        refine (rs_take2 ⟨#[125]⟩ _ rb A c n qf L fc fp lff RR.out (by decide) HF.out).mono ?_
        rintro e u19 ⟨rfl, bu19⟩
        replace RR := Lib.hid (RR.out.below bu19)
        replace KK := Lib.hid (KeepR.trans' KK.out (KeepR.of_below' bu19))
        replace V4 := Lib.hid ((bu19.block g4 (lt_of_block V4.out)).trans V4.out)
        replace V5 := Lib.hid ((bu19.block g5 (lt_of_block V5.out)).trans V5.out)
        clear bu19
        obtain ⟨⟨c0, c1, c2, c3, c4, c5, c6, c7⟩, _⟩ := cells8R V5.out
        go_wp2_with fail
        refine (rs_is_fault ⟨#[101, 108, 115, 101]⟩ _ rb A c n qf L fc fp lff RR.out HF.out).mono ?_
        rintro e u21 ⟨rfl, bu21⟩
        clear c0 c1 c2 c3 c4 c5 c6 c7
        replace RR := Lib.hid (RR.out.below bu21)
        replace KK := Lib.hid (KeepR.trans' KK.out (KeepR.of_below' bu21))
        replace V4 := Lib.hid ((bu21.block g4 (lt_of_block V4.out)).trans V4.out)
        replace V5 := Lib.hid ((bu21.block g5 (lt_of_block V5.out)).trans V5.out)
        clear bu21
        obtain ⟨⟨c0, c1, c2, c3, c4, c5, c6, c7⟩, f0, f1, f2, f3, f4, f5, f6, f7⟩ := cells8R V4.out
        obtain ⟨⟨a0, a1, a2, a3, a4, a5, a6, a7⟩, _⟩ := cells8R V5.out
        have hz4 := lt_of_block V4.out
        have hz5 := lt_of_block V5.out
        go_wp2_with fail
        refine bodyPost_ret (v := .agg #[.int .i64 2, .string ⟨#[]⟩, .int .i64 ty, .int .i64 tn, .string ts, .slice tA tm tc, .slice bA bm bc, .slice none 0 0]) (by simp [results, Tryd.results28, go_sem, c0, c1, c2, c3, c4, c5, c6, c7]) rfl ?_
        rw [GG.out]
        exact finRB ⟨2, ⟨#[]⟩, ty, tn, ts, tA, tm, tc, bA, bm, bc, none, 0, 0⟩ HG4.out KK.out RR.out HF.out HA4.out hn4r
      | ok b qb =>
        obtain ⟨bl, leftb⟩ := b
        obtain ⟨hm, hb1, hb2, row, ru18⟩ := hret
        simp only at hm hb1 row ru18
        subst hm
        have hlb := rdS_left hg
        simp only at hlb
        have Rb := Lib.hid row
        clear row hg
        have Sb : Hid (u18.heap.size ≤ u18.heap.size) := Lib.hid (Nat.le_refl _)
        replace RR := Lib.hid ru18
        replace KK := Lib.hid (KeepR.trans' KK.out ku18)
        replace V4 := Lib.hid ((ku18.block g4 (lt_of_block V4.out) hn4r).trans V4.out)
        replace V5 := Lib.hid ((ku18.block g5 (lt_of_block V5.out) hn5r).trans V5.out)
        replace TT := Lib.hid (TT.out.keep fun x hx => ku18.block x (Nat.lt_of_lt_of_le hx.2 ST.out) (by have h1 := hx.1; have := SL.out; omega))
        replace ST := Lib.hid (Nat.le_trans ST.out ku18.size)
        clear ku18 ru18
        obtain ⟨⟨c0, c1, c2, c3, c4, c5, c6, c7⟩, f0, f1, f2, f3, f4, f5, f6, f7⟩ := cells8R V5.out
        have hz5 := lt_of_block V5.out
        replace RR := Lib.hid (RR.out.setg hn5r HA5.out 6 (.slice bA bl.length bc))
        replace KK := Lib.hid (KeepR.setg (g := g5) (o := 6) KK.out (by have := HG5.out; omega) (.slice bA bl.length bc))
        replace V4 := Lib.hid ((Below.heap_setCell u18 ⟨g5, 6, none⟩ (.slice bA bl.length bc) g4 hn45).trans V4.out)
        replace V5 := Lib.hid (s8_6 V5.out (.slice bA bl.length bc))
        replace TT := Lib.hid (TT.out.set (p := ⟨g5, 6, none⟩) (fun h => by have h1 : u4.heap.size ≤ g5 := h.1; have := SL.out; omega) (.slice bA bl.length bc))
        replace ST : Hid (u5.heap.size ≤ (u18.setCell ⟨g5, 6, none⟩ (.slice bA bl.length bc)).heap.size) := Lib.hid (Nat.le_trans ST.out (by simp))
        replace Rb := Lib.hid (Rb.out.set (p := ⟨g5, 6, none⟩) (fun h => by have h1 : u13.heap.size ≤ g5 := h.1; have := Lb.out; omega) (.slice bA bl.length bc))
        replace Sb : Hid (u18.heap.size ≤ (u18.setCell ⟨g5, 6, none⟩ (.slice bA bl.length bc)).heap.size) := Lib.hid (Nat.le_trans Sb.out (by simp))
        replace GA : Hid (oneG L n (rdS L n r) 2 i left = nesC L n (rdS L n r) 2 t (bl, leftb) qb) := Lib.hid (by rw [GA.out, bind_ok])
        go_wp2_with fail
        obtain ⟨u22, hu22⟩ : ∃ x, (u18.setCell ⟨g5, 6, none⟩ (.slice bA bl.length bc)) = x := ⟨_, rfl⟩
        rw [hu22] at RR KK V4 V5 TT ST Rb Sb ⊢
        clear hu22 c0 c1 c2 c3 c4 c5 c6 c7 f0 f1 f2 f3 f4 f5 f6 f7 hz5
        refine (rs_take ⟨#[125]⟩ _ rb A c n qb L 0 (leftb : Int) RR.out (by decide)).mono ?_
        rintro e u23 ⟨rfl, ku23, hret⟩
        rcases hret with ⟨ht, ru23⟩ | ⟨ht, ru23⟩
        case inr =>
          have HF : Hid (¬ (3 : Int) = 0) := Lib.hid (by decide)
          have GG : Hid (oneG L n (rdS L n r) 2 i left = .bad 3 (posAt L n qb)) := Lib.hid (by rw [GA.out, nesC_bad ht])
          clear ht GA
          replace RR := Lib.hid ru23
          replace KK := Lib.hid (KeepR.trans' KK.out ku23)
          replace V4 := Lib.hid ((ku23.block g4 (lt_of_block V4.out) hn4r).trans V4.out)
          replace V5 := Lib.hid ((ku23.block g5 (lt_of_block V5.out) hn5r).trans V5.out)
          clear ku23 ru23
          obtain ⟨⟨c0, c1, c2, c3, c4, c5, c6, c7⟩, _⟩ := cells8R V5.out
          go_wp2_with fail
          refine (rs_is_fault ⟨#[101, 108, 115, 101]⟩ _ rb A c n qb L 3 (posAt L n qb) (leftb : Int) RR.out HF.out).mono ?_
          rintro e u24 ⟨rfl, bu24⟩
          clear c0 c1 c2 c3 c4 c5 c6 c7
          replace RR := Lib.hid (RR.out.below bu24)
          replace KK := Lib.hid (KeepR.trans' KK.out (KeepR.of_below' bu24))
          replace V4 := Lib.hid ((bu24.block g4 (lt_of_block V4.out)).trans V4.out)
          replace V5 := Lib.hid ((bu24.block g5 (lt_of_block V5.out)).trans V5.out)
          clear bu24
          obtain ⟨⟨c0, c1, c2, c3, c4, c5, c6, c7⟩, f0, f1, f2, f3, f4, f5, f6, f7⟩ := cells8R V4.out
          obtain ⟨⟨a0, a1, a2, a3, a4, a5, a6, a7⟩, _⟩ := cells8R V5.out
          have hz4 := lt_of_block V4.out
          have hz5 := lt_of_block V5.out
          go_wp2_with fail
          refine bodyPost_ret (v := .agg #[.int .i64 2, .string ⟨#[]⟩, .int .i64 ty, .int .i64 tn, .string ts, .slice tA tm tc, .slice bA bl.length bc, .slice none 0 0]) (by simp [results, Tryd.results28, go_sem, c0, c1, c2, c3, c4, c5, c6, c7]) rfl ?_
          rw [GG.out]
          exact finRB ⟨2, ⟨#[]⟩, ty, tn, ts, tA, tm, tc, bA, bl.length, bc, none, 0, 0⟩ HG4.out KK.out RR.out HF.out HA4.out hn4r
        replace GA : Hid (oneG L n (rdS L n r) 2 i left = nesE L n (rdS L n r) 2 t (bl, leftb) (qb + 1)) := Lib.hid (by rw [GA.out, nesC_ok ht])
        clear ht
        replace RR := Lib.hid ru23
        replace KK := Lib.hid (KeepR.trans' KK.out ku23)
        replace V4 := Lib.hid ((ku23.block g4 (lt_of_block V4.out) hn4r).trans V4.out)
        replace V5 := Lib.hid ((ku23.block g5 (lt_of_block V5.out) hn5r).trans V5.out)
        replace TT := Lib.hid (TT.out.keep fun x hx => ku23.block x (Nat.lt_of_lt_of_le hx.2 ST.out) (by have h1 := hx.1; have := SL.out; omega))
        replace ST := Lib.hid (Nat.le_trans ST.out ku23.size)
        replace Rb := Lib.hid (Rb.out.keep fun x hx => ku23.block x (Nat.lt_of_lt_of_le hx.2 Sb.out) (by have h1 := hx.1; have := Lb.out; omega))
        replace Sb := Lib.hid (Nat.le_trans Sb.out ku23.size)
        clear ku23 ru23
        obtain ⟨⟨c0, c1, c2, c3, c4, c5, c6, c7⟩, f0, f1, f2, f3, f4, f5, f6, f7⟩ := cells8R V5.out
        go_wp2_with fail
        refine (rs_is ⟨#[101, 108, 115, 101]⟩ _ rb A c n (qb + 1) L 0 0 (leftb : Int) RR.out (by decide)).mono ?_
        rintro e u25 ⟨rfl, bu25⟩
        clear c0 c1 c2 c3 c4 c5 c6 c7 f0 f1 f2 f3 f4 f5 f6 f7
        rw [kd1]
        replace RR := Lib.hid (RR.out.below bu25)
        replace KK := Lib.hid (KeepR.trans' KK.out (KeepR.of_below' bu25))
        replace V4 := Lib.hid ((bu25.block g4 (lt_of_block V4.out)).trans V4.out)
        replace V5 := Lib.hid ((bu25.block g5 (lt_of_block V5.out)).trans V5.out)
        replace TT := Lib.hid (TT.out.keep fun x hx => bu25.block x (Nat.lt_of_lt_of_le hx.2 ST.out))
        replace ST := Lib.hid (Nat.le_trans ST.out bu25.size)
        replace Rb := Lib.hid (Rb.out.keep fun x hx => bu25.block x (Nat.lt_of_lt_of_le hx.2 Sb.out))
        replace Sb := Lib.hid (Nat.le_trans Sb.out bu25.size)
        clear bu25
        have hq6 := RR.out.hi
        by_cases hel : tx L (qb + 1) = ⟨#[101, 108, 115, 101]⟩
        case neg =>
          rw [decide_eq_false hel]
          have GG : Hid (oneG L n (rdS L n r) 2 i left = .ok (.mk 2 ⟨#[]⟩ t bl [], leftb) (qb + 1)) := Lib.hid (by rw [GA.out, nesE_stop hel])
          clear GA hel
          obtain ⟨⟨c0, c1, c2, c3, c4, c5, c6, c7⟩, f0, f1, f2, f3, f4, f5, f6, f7⟩ := cells8R V4.out
          obtain ⟨⟨a0, a1, a2, a3, a4, a5, a6, a7⟩, _⟩ := cells8R V5.out
          have hz4 := lt_of_block V4.out
          have hz5 := lt_of_block V5.out
          go_wp2_with fail
          refine bodyPost_ret (v := .agg #[.int .i64 2, .string ⟨#[]⟩, .int .i64 ty, .int .i64 tn, .string ts, .slice tA tm tc, .slice bA bl.length bc, .slice none 0 0]) (by simp [results, Tryd.results28, go_sem, c0, c1, c2, c3, c4, c5, c6, c7]) rfl ?_
          rw [GG.out]
          exact finRO (F := fun b => Made u4 u5 b ∨ Made u13 u18 b) ⟨2, ⟨#[]⟩, ty, tn, ts, tA, tm, tc, bA, bl.length, bc, none, 0, 0⟩ HG4.out KK.out RR.out HA4.out hn4r (StO.mk' (T := Made u4 u5) (B := Made u13 u18) (E := fun _ => False) (show i64in 2 from by unfold i64in; omega) (Nat.zero_le _) TT.out rfl hb1 hb2 Rb.out rfl (Nat.le_refl _) (Nat.zero_le _) stRowO_nilR (fun _ h => .inl h) (fun _ h => .inr h) (fun _ h => h.elim) (fun b h1 h2 => by have := h1.2; have := h2.1; have := HTB.out; omega) (fun _ _ h => h) (fun _ _ h => h)) (fun b h => by rcases h with h | h; all_goals (have h1 := h.1; have h2 := h.2; have := ST.out; have := SL.out; have := Sb.out; have := Lb.out; have := HG5.out; constructor <;> omega))
        rw [decide_eq_true hel]
        replace GA : Hid (oneG L n (rdS L n r) 2 i left = nesF L n (rdS L n r) 2 t (bl, leftb) (qb + 1 + 1)) := Lib.hid (by rw [GA.out, nesE_else (by decide) hel])
        have hq7 := there_of (L := L) (i := qb + 1) (by rw [hel]; decide)
        clear hel
        obtain ⟨j, hj⟩ : ∃ j, qb + 1 = j := ⟨_, rfl⟩
        rw [hj] at GA RR hq7 hq6
        clear hj
        obtain ⟨_, p1, _, p3, _, p5⟩ := RR.out.cs
        have fr := RR.out.fz 1
        have hrl := RR.out.lt
        replace RR := Lib.hid (RR.out.seti (by omega))
        replace KK := Lib.hid (KeepR.setr (o := 1) KK.out (.int .i64 ((j : Int) + 1)))
        replace V4 := Lib.hid ((Below.heap_setCell u25 ⟨rb, 1, none⟩ (.int .i64 ((j : Int) + 1)) g4 hn4r).trans V4.out)
        replace V5 := Lib.hid ((Below.heap_setCell u25 ⟨rb, 1, none⟩ (.int .i64 ((j : Int) + 1)) g5 hn5r).trans V5.out)
        replace TT := Lib.hid (TT.out.set (p := ⟨rb, 1, none⟩) (fun h => by have h1 : u4.heap.size ≤ rb := h.1; have := SL.out; omega) (.int .i64 ((j : Int) + 1)))
        replace ST : Hid (u5.heap.size ≤ (u25.setCell ⟨rb, 1, none⟩ (.int .i64 ((j : Int) + 1))).heap.size) := Lib.hid (Nat.le_trans ST.out (by simp))
        replace Rb := Lib.hid (Rb.out.set (p := ⟨rb, 1, none⟩) (fun h => by have h1 : u13.heap.size ≤ rb := h.1; have := Lb.out; omega) (.int .i64 ((j : Int) + 1)))
        replace Sb : Hid (u18.heap.size ≤ (u25.setCell ⟨rb, 1, none⟩ (.int .i64 ((j : Int) + 1))).heap.size) := Lib.hid (Nat.le_trans Sb.out (by simp))
        go_wp2_with fail
        obtain ⟨u26, hu26⟩ : ∃ x, (u25.setCell ⟨rb, 1, none⟩ (.int .i64 ((j : Int) + 1))) = x := ⟨_, rfl⟩
        rw [hu26] at RR KK V4 V5 TT ST Rb Sb ⊢
        clear hu26 p1 p3 p5 fr hrl
        refine (rs_take ⟨#[123]⟩ _ rb A c n (j + 1) L 0 (leftb : Int) RR.out (by decide)).mono ?_
        rintro e u27 ⟨rfl, ku27, hret⟩
        rcases hret with ⟨ht, ru27⟩ | ⟨ht, ru27⟩
        case inr =>
          have HF : Hid (¬ (3 : Int) = 0) := Lib.hid (by decide)
          have GG : Hid (oneG L n (rdS L n r) 2 i left = .bad 3 (posAt L n (j + 1))) := Lib.hid (by rw [GA.out, nesF_bad ht])
          clear ht GA
          replace RR := Lib.hid ru27
          replace KK := Lib.hid (KeepR.trans' KK.out ku27)
          replace V4 := Lib.hid ((ku27.block g4 (lt_of_block V4.out) hn4r).trans V4.out)
          replace V5 := Lib.hid ((ku27.block g5 (lt_of_block V5.out) hn5r).trans V5.out)
          clear ku27 ru27
          obtain ⟨_, _, _, p3, _, _⟩ := RR.out.cs
          have hfb : ((3 : Int) == 0) = false := beq_eq_false_iff_ne.2 HF.out
          go_wp2_with fail
          refine (rs_stmts_fault _ _ rb A c n (j + 1) L 3 (posAt L n (j + 1)) (leftb : Int) RR.out HF.out).mono ?_
          rintro e u28 ⟨Au28, cu28, rfl, bu28⟩
          replace RR := Lib.hid (RR.out.below bu28)
          replace KK := Lib.hid (KeepR.trans' KK.out (KeepR.of_below' bu28))
          replace V4 := Lib.hid ((bu28.block g4 (lt_of_block V4.out)).trans V4.out)
          replace V5 := Lib.hid ((bu28.block g5 (lt_of_block V5.out)).trans V5.out)
          clear bu28
          obtain ⟨⟨c0, c1, c2, c3, c4, c5, c6, c7⟩, f0, f1, f2, f3, f4, f5, f6, f7⟩ := cells8R V5.out
          have hz5 := lt_of_block V5.out
          replace RR := Lib.hid (RR.out.setg hn5r HA5.out 7 (.slice Au28 0 cu28))
          replace KK := Lib.hid (KeepR.setg (g := g5) (o := 7) KK.out (by have := HG5.out; omega) (.slice Au28 0 cu28))
          replace V4 := Lib.hid ((Below.heap_setCell u28 ⟨g5, 7, none⟩ (.slice Au28 0 cu28) g4 hn45).trans V4.out)
          replace V5 := Lib.hid (s8_7 V5.out (.slice Au28 0 cu28))
          go_wp2_with fail
          obtain ⟨u30, hu30⟩ : ∃ x, (u28.setCell ⟨g5, 7, none⟩ (.slice Au28 0 cu28)) = x := ⟨_, rfl⟩
          rw [hu30] at RR KK V4 V5 ⊢
          clear hu30 c0 c1 c2 c3 c4 c5 c6 c7 f0 f1 f2 f3 f4 f5 f6 f7 hz5
          refine (rs_take2 ⟨#[125]⟩ _ rb A c n (j + 1) L 3 (posAt L n (j + 1)) (leftb : Int) RR.out (by decide) HF.out).mono ?_
          rintro e u29 ⟨rfl, bu29⟩
          replace RR := Lib.hid (RR.out.below bu29)
          replace KK := Lib.hid (KeepR.trans' KK.out (KeepR.of_below' bu29))
          replace V4 := Lib.hid ((bu29.block g4 (lt_of_block V4.out)).trans V4.out)
          replace V5 := Lib.hid ((bu29.block g5 (lt_of_block V5.out)).trans V5.out)
          clear bu29
          obtain ⟨⟨c0, c1, c2, c3, c4, c5, c6, c7⟩, f0, f1, f2, f3, f4, f5, f6, f7⟩ := cells8R V4.out
          obtain ⟨⟨a0, a1, a2, a3, a4, a5, a6, a7⟩, _⟩ := cells8R V5.out
          have hz4 := lt_of_block V4.out
          have hz5 := lt_of_block V5.out
          go_wp2_with fail
          refine bodyPost_ret (v := .agg #[.int .i64 2, .string ⟨#[]⟩, .int .i64 ty, .int .i64 tn, .string ts, .slice tA tm tc, .slice bA bl.length bc, .slice Au28 0 cu28]) (by simp [results, Tryd.results28, go_sem, c0, c1, c2, c3, c4, c5, c6, c7]) rfl ?_
          rw [GG.out]
          exact finRB ⟨2, ⟨#[]⟩, ty, tn, ts, tA, tm, tc, bA, bl.length, bc, Au28, 0, cu28⟩ HG4.out KK.out RR.out HF.out HA4.out hn4r
        replace RR := Lib.hid ru27
        replace KK := Lib.hid (KeepR.trans' KK.out ku27)
        replace V4 := Lib.hid ((ku27.block g4 (lt_of_block V4.out) hn4r).trans V4.out)
        replace V5 := Lib.hid ((ku27.block g5 (lt_of_block V5.out) hn5r).trans V5.out)
        replace TT := Lib.hid (TT.out.keep fun x hx => ku27.block x (Nat.lt_of_lt_of_le hx.2 ST.out) (by have h1 := hx.1; have := SL.out; omega))
        replace ST := Lib.hid (Nat.le_trans ST.out ku27.size)
        replace Rb := Lib.hid (Rb.out.keep fun x hx => ku27.block x (Nat.lt_of_lt_of_le hx.2 Sb.out) (by have h1 := hx.1; have := Lb.out; omega))
        replace Sb := Lib.hid (Nat.le_trans Sb.out ku27.size)
        clear ku27 ru27
        obtain ⟨_, _, _, p3, _, _⟩ := RR.out.cs
        go_wp2_with fail
        refine (rs_begins _ rb A c n (j + 1 + 1) L 0 (leftb : Int) HS.out RR.out).mono ?_
        rintro e u31 ⟨rfl, bu31⟩
        clear p3
        replace RR := Lib.hid (RR.out.below bu31)
        replace KK := Lib.hid (KeepR.trans' KK.out (KeepR.of_below' bu31))
        replace V4 := Lib.hid ((bu31.block g4 (lt_of_block V4.out)).trans V4.out)
        replace V5 := Lib.hid ((bu31.block g5 (lt_of_block V5.out)).trans V5.out)
        replace TT := Lib.hid (TT.out.keep fun x hx => bu31.block x (Nat.lt_of_lt_of_le hx.2 ST.out))
        replace ST := Lib.hid (Nat.le_trans ST.out bu31.size)
        replace Rb := Lib.hid (Rb.out.keep fun x hx => bu31.block x (Nat.lt_of_lt_of_le hx.2 Sb.out))
        replace Sb := Lib.hid (Nat.le_trans Sb.out bu31.size)
        clear bu31
        by_cases hwd : wordOf L (j + 1 + 1) = 0
        case pos =>
          rw [decide_eq_false (fun h => h hwd)]
          have HF : Hid (¬ (3 : Int) = 0) := Lib.hid (by decide)
          have GG : Hid (oneG L n (rdS L n r) 2 i left = .bad 3 (posAt L n (j + 1 + 1))) := Lib.hid (by rw [GA.out, nesF_none ht hwd])
          clear GA hwd ht
          go_wp2_with fail
          refine (rs_bad 3 _ rb A c n (j + 1 + 1) L 0 (leftb : Int) RR.out).mono ?_
          rintro e u32 ⟨rfl, ru32, ku32⟩
          replace RR := Lib.hid ru32
          replace KK := Lib.hid (KeepR.trans' KK.out ku32)
          replace V4 := Lib.hid ((ku32.block g4 (lt_of_block V4.out) hn4r).trans V4.out)
          replace V5 := Lib.hid ((ku32.block g5 (lt_of_block V5.out) hn5r).trans V5.out)
          clear ku32 ru32
          go_wp2_with fail
          refine (rs_stmts_fault _ _ rb A c n (j + 1 + 1) L 3 (posAt L n (j + 1 + 1)) (leftb : Int) RR.out HF.out).mono ?_
          rintro e u33 ⟨Au33, cu33, rfl, bu33⟩
          replace RR := Lib.hid (RR.out.below bu33)
          replace KK := Lib.hid (KeepR.trans' KK.out (KeepR.of_below' bu33))
          replace V4 := Lib.hid ((bu33.block g4 (lt_of_block V4.out)).trans V4.out)
          replace V5 := Lib.hid ((bu33.block g5 (lt_of_block V5.out)).trans V5.out)
          clear bu33
          obtain ⟨⟨c0, c1, c2, c3, c4, c5, c6, c7⟩, f0, f1, f2, f3, f4, f5, f6, f7⟩ := cells8R V5.out
          have hz5 := lt_of_block V5.out
          replace RR := Lib.hid (RR.out.setg hn5r HA5.out 7 (.slice Au33 0 cu33))
          replace KK := Lib.hid (KeepR.setg (g := g5) (o := 7) KK.out (by have := HG5.out; omega) (.slice Au33 0 cu33))
          replace V4 := Lib.hid ((Below.heap_setCell u33 ⟨g5, 7, none⟩ (.slice Au33 0 cu33) g4 hn45).trans V4.out)
          replace V5 := Lib.hid (s8_7 V5.out (.slice Au33 0 cu33))
          go_wp2_with fail
          obtain ⟨u35, hu35⟩ : ∃ x, (u33.setCell ⟨g5, 7, none⟩ (.slice Au33 0 cu33)) = x := ⟨_, rfl⟩
          rw [hu35] at RR KK V4 V5 ⊢
          clear hu35 c0 c1 c2 c3 c4 c5 c6 c7 f0 f1 f2 f3 f4 f5 f6 f7 hz5
          refine (rs_take2 ⟨#[125]⟩ _ rb A c n (j + 1 + 1) L 3 (posAt L n (j + 1 + 1)) (leftb : Int) RR.out (by decide) HF.out).mono ?_
          rintro e u34 ⟨rfl, bu34⟩
          replace RR := Lib.hid (RR.out.below bu34)
          replace KK := Lib.hid (KeepR.trans' KK.out (KeepR.of_below' bu34))
          replace V4 := Lib.hid ((bu34.block g4 (lt_of_block V4.out)).trans V4.out)
          replace V5 := Lib.hid ((bu34.block g5 (lt_of_block V5.out)).trans V5.out)
          clear bu34
          obtain ⟨⟨c0, c1, c2, c3, c4, c5, c6, c7⟩, f0, f1, f2, f3, f4, f5, f6, f7⟩ := cells8R V4.out
          obtain ⟨⟨a0, a1, a2, a3, a4, a5, a6, a7⟩, _⟩ := cells8R V5.out
          have hz4 := lt_of_block V4.out
          have hz5 := lt_of_block V5.out
          go_wp2_with fail
          refine bodyPost_ret (v := .agg #[.int .i64 2, .string ⟨#[]⟩, .int .i64 ty, .int .i64 tn, .string ts, .slice tA tm tc, .slice bA bl.length bc, .slice Au33 0 cu33]) (by simp [results, Tryd.results28, go_sem, c0, c1, c2, c3, c4, c5, c6, c7]) rfl ?_
          rw [GG.out]
          exact finRB ⟨2, ⟨#[]⟩, ty, tn, ts, tA, tm, tc, bA, bl.length, bc, Au33, 0, cu33⟩ HG4.out KK.out RR.out HF.out HA4.out hn4r
        rw [decide_eq_true hwd]
        replace GA : Hid (oneG L n (rdS L n r) 2 i left = (rdS L n r (j + 1 + 1) leftb).bind fun e i3 => nesH L n 2 t (bl, leftb) e i3) := Lib.hid (by rw [GA.out, nesF_open ht hwd])
        clear ht hwd
        go_wp2_with fail
        have HTE : Hid (u5.heap.size ≤ u31.heap.size) := Lib.hid ST.out
        have HBE : Hid (u18.heap.size ≤ u31.heap.size) := Lib.hid Sb.out
        have Le : Hid (g5 < u31.heap.size ∧ rb < u31.heap.size ∧ g4 < u31.heap.size) := Lib.hid ⟨lt_of_block V5.out, RR.out.lt, lt_of_block V4.out⟩
        have hcl := IH.out u31 rb A c n (j + 1 + 1) L leftb HS.out (fun b o e => Nat.lt_of_lt_of_le (HA.out b o e) KK.out.size) (by omega) RR.out
        rw [← HRM.out] at hcl
        refine hcl.mono ?_
        clear hcl
        rintro e u36 ⟨ku36, eA, em, ec, rfl, hret⟩
        obtain ⟨g, hg⟩ : ∃ g, rdS L n r (j + 1 + 1) leftb = g := ⟨_, rfl⟩
        rw [hg] at hret GA
        cases g with
        | bad fc fp =>
          obtain ⟨hf, qf, lff, ru36⟩ := hret
          have HF := Lib.hid hf
          have GG : Hid (oneG L n (rdS L n r) 2 i left = .bad fc fp) := Lib.hid (by rw [GA.out]; rfl)
          clear hf GA hg
          replace RR := Lib.hid ru36
          replace KK := Lib.hid (KeepR.trans' KK.out ku36)
          replace V4 := Lib.hid ((ku36.block g4 (lt_of_block V4.out) hn4r).trans V4.out)
          replace V5 := Lib.hid ((ku36.block g5 (lt_of_block V5.out) hn5r).trans V5.out)
          clear ku36 ru36
          obtain ⟨⟨c0, c1, c2, c3, c4, c5, c6, c7⟩, f0, f1, f2, f3, f4, f5, f6, f7⟩ := cells8R V5.out
          have hz5 := lt_of_block V5.out
          replace RR := Lib.hid (RR.out.setg hn5r HA5.out 7 (.slice eA em ec))
          replace KK := Lib.hid (KeepR.setg (g := g5) (o := 7) KK.out (by have := HG5.out; omega) (.slice eA em ec))
          replace V4 := Lib.hid ((Below.heap_setCell u36 ⟨g5, 7, none⟩ (.slice eA em ec) g4 hn45).trans V4.out)
          replace V5 := Lib.hid (s8_7 V5.out (.slice eA em ec))
          go_wp2_with fail
          obtain ⟨u38, hu38⟩ : ∃ x, (u36.setCell ⟨g5, 7, none⟩ (.slice eA em ec)) = x := ⟨_, rfl⟩
          rw [hu38] at RR KK V4 V5 ⊢
          clear hu38 c0 c1 c2 c3 c4 c5 c6 c7 f0 f1 f2 f3 f4 f5 f6 f7 hz5
          refine (rs_take2 ⟨#[125]⟩ _ rb A c n qf L fc fp lff RR.out (by decide) HF.out).mono ?_
          rintro e u37 ⟨rfl, bu37⟩
          replace RR := Lib.hid (RR.out.below bu37)
          replace KK := Lib.hid (KeepR.trans' KK.out (KeepR.of_below' bu37))
          replace V4 := Lib.hid ((bu37.block g4 (lt_of_block V4.out)).trans V4.out)
          replace V5 := Lib.hid ((bu37.block g5 (lt_of_block V5.out)).trans V5.out)
          clear bu37
          obtain ⟨⟨c0, c1, c2, c3, c4, c5, c6, c7⟩, f0, f1, f2, f3, f4, f5, f6, f7⟩ := cells8R V4.out
          obtain ⟨⟨a0, a1, a2, a3, a4, a5, a6, a7⟩, _⟩ := cells8R V5.out
          have hz4 := lt_of_block V4.out
          have hz5 := lt_of_block V5.out
          go_wp2_with fail
          refine bodyPost_ret (v := .agg #[.int .i64 2, .string ⟨#[]⟩, .int .i64 ty, .int .i64 tn, .string ts, .slice tA tm tc, .slice bA bl.length bc, .slice eA em ec]) (by simp [results, Tryd.results28, go_sem, c0, c1, c2, c3, c4, c5, c6, c7]) rfl ?_
          rw [GG.out]
          exact finRB ⟨2, ⟨#[]⟩, ty, tn, ts, tA, tm, tc, bA, bl.length, bc, eA, em, ec⟩ HG4.out KK.out RR.out HF.out HA4.out hn4r
        | ok b qe =>
          obtain ⟨el, lefte⟩ := b
          obtain ⟨hm, he1, he2, row, ru36⟩ := hret
          simp only at hm he1 row ru36
          subst hm
          have hle := rdS_left hg
          simp only at hle
          have Re := Lib.hid row
          clear row hg
          have Se : Hid (u36.heap.size ≤ u36.heap.size) := Lib.hid (Nat.le_refl _)
          replace RR := Lib.hid ru36
          replace KK := Lib.hid (KeepR.trans' KK.out ku36)
          replace V4 := Lib.hid ((ku36.block g4 (lt_of_block V4.out) hn4r).trans V4.out)
          replace V5 := Lib.hid ((ku36.block g5 (lt_of_block V5.out) hn5r).trans V5.out)
          replace TT := Lib.hid (TT.out.keep fun x hx => ku36.block x (Nat.lt_of_lt_of_le hx.2 ST.out) (by have h1 := hx.1; have := SL.out; omega))
          replace ST := Lib.hid (Nat.le_trans ST.out ku36.size)
          replace Rb := Lib.hid (Rb.out.keep fun x hx => ku36.block x (Nat.lt_of_lt_of_le hx.2 Sb.out) (by have h1 := hx.1; have := Lb.out; omega))
          replace Sb := Lib.hid (Nat.le_trans Sb.out ku36.size)
          clear ku36 ru36
          obtain ⟨⟨c0, c1, c2, c3, c4, c5, c6, c7⟩, f0, f1, f2, f3, f4, f5, f6, f7⟩ := cells8R V5.out
          have hz5 := lt_of_block V5.out
          replace RR := Lib.hid (RR.out.setg hn5r HA5.out 7 (.slice eA el.length ec))
          replace KK := Lib.hid (KeepR.setg (g := g5) (o := 7) KK.out (by have := HG5.out; omega) (.slice eA el.length ec))
          replace V4 := Lib.hid ((Below.heap_setCell u36 ⟨g5, 7, none⟩ (.slice eA el.length ec) g4 hn45).trans V4.out)
          replace V5 := Lib.hid (s8_7 V5.out (.slice eA el.length ec))
          replace TT := Lib.hid (TT.out.set (p := ⟨g5, 7, none⟩) (fun h => by have h1 : u4.heap.size ≤ g5 := h.1; have := SL.out; omega) (.slice eA el.length ec))
          replace ST : Hid (u5.heap.size ≤ (u36.setCell ⟨g5, 7, none⟩ (.slice eA el.length ec)).heap.size) := Lib.hid (Nat.le_trans ST.out (by simp))
          replace Rb := Lib.hid (Rb.out.set (p := ⟨g5, 7, none⟩) (fun h => by have h1 : u13.heap.size ≤ g5 := h.1; have := Lb.out; omega) (.slice eA el.length ec))
          replace Sb : Hid (u18.heap.size ≤ (u36.setCell ⟨g5, 7, none⟩ (.slice eA el.length ec)).heap.size) := Lib.hid (Nat.le_trans Sb.out (by simp))
          replace Re := Lib.hid (Re.out.set (p := ⟨g5, 7, none⟩) (fun h => by have h1 : u31.heap.size ≤ g5 := h.1; have := Le.out; omega) (.slice eA el.length ec))
          replace Se : Hid (u36.heap.size ≤ (u36.setCell ⟨g5, 7, none⟩ (.slice eA el.length ec)).heap.size) := Lib.hid (Nat.le_trans Se.out (by simp))
          replace GA : Hid (oneG L n (rdS L n r) 2 i left = nesH L n 2 t (bl, leftb) (el, lefte) qe) := Lib.hid (by rw [GA.out, bind_ok])
          go_wp2_with fail
          obtain ⟨u39, hu39⟩ : ∃ x, (u36.setCell ⟨g5, 7, none⟩ (.slice eA el.length ec)) = x := ⟨_, rfl⟩
          rw [hu39] at RR KK V4 V5 TT ST Rb Sb Re Se ⊢
          clear hu39 c0 c1 c2 c3 c4 c5 c6 c7 f0 f1 f2 f3 f4 f5 f6 f7 hz5
          refine (rs_take ⟨#[125]⟩ _ rb A c n qe L 0 (lefte : Int) RR.out (by decide)).mono ?_
          rintro e u40 ⟨rfl, ku40, hret⟩
          rcases hret with ⟨ht, ru40⟩ | ⟨ht, ru40⟩
          case inr =>
            have HF : Hid (¬ (3 : Int) = 0) := Lib.hid (by decide)
            have GG : Hid (oneG L n (rdS L n r) 2 i left = .bad 3 (posAt L n qe)) := Lib.hid (by rw [GA.out, nesH_bad ht])
            clear ht GA
            replace RR := Lib.hid ru40
            replace KK := Lib.hid (KeepR.trans' KK.out ku40)
            replace V4 := Lib.hid ((ku40.block g4 (lt_of_block V4.out) hn4r).trans V4.out)
            replace V5 := Lib.hid ((ku40.block g5 (lt_of_block V5.out) hn5r).trans V5.out)
            clear ku40 ru40
            obtain ⟨⟨c0, c1, c2, c3, c4, c5, c6, c7⟩, f0, f1, f2, f3, f4, f5, f6, f7⟩ := cells8R V4.out
            obtain ⟨⟨a0, a1, a2, a3, a4, a5, a6, a7⟩, _⟩ := cells8R V5.out
            have hz4 := lt_of_block V4.out
            have hz5 := lt_of_block V5.out
            go_wp2_with fail
            refine bodyPost_ret (v := .agg #[.int .i64 2, .string ⟨#[]⟩, .int .i64 ty, .int .i64 tn, .string ts, .slice tA tm tc, .slice bA bl.length bc, .slice eA el.length ec]) (by simp [results, Tryd.results28, go_sem, c0, c1, c2, c3, c4, c5, c6, c7]) rfl ?_
            rw [GG.out]
            exact finRB ⟨2, ⟨#[]⟩, ty, tn, ts, tA, tm, tc, bA, bl.length, bc, eA, el.length, ec⟩ HG4.out KK.out RR.out HF.out HA4.out hn4r
          have GG : Hid (oneG L n (rdS L n r) 2 i left = .ok (.mk 2 ⟨#[]⟩ t bl el, lefte) (qe + 1)) := Lib.hid (by rw [GA.out, nesH_ok ht])
          clear ht
          replace RR := Lib.hid ru40
          replace KK := Lib.hid (KeepR.trans' KK.out ku40)
          replace V4 := Lib.hid ((ku40.block g4 (lt_of_block V4.out) hn4r).trans V4.out)
          replace V5 := Lib.hid ((ku40.block g5 (lt_of_block V5.out) hn5r).trans V5.out)
          replace TT := Lib.hid (TT.out.keep fun x hx => ku40.block x (Nat.lt_of_lt_of_le hx.2 ST.out) (by have h1 := hx.1; have := SL.out; omega))
          replace ST := Lib.hid (Nat.le_trans ST.out ku40.size)
          replace Rb := Lib.hid (Rb.out.keep fun x hx => ku40.block x (Nat.lt_of_lt_of_le hx.2 Sb.out) (by have h1 := hx.1; have := Lb.out; omega))
          replace Sb := Lib.hid (Nat.le_trans Sb.out ku40.size)
          replace Re := Lib.hid (Re.out.keep fun x hx => ku40.block x (Nat.lt_of_lt_of_le hx.2 Se.out) (by have h1 := hx.1; have := Le.out; omega))
          replace Se := Lib.hid (Nat.le_trans Se.out ku40.size)
          clear ku40 ru40
          clear GA
          obtain ⟨⟨c0, c1, c2, c3, c4, c5, c6, c7⟩, f0, f1, f2, f3, f4, f5, f6, f7⟩ := cells8R V4.out
          obtain ⟨⟨a0, a1, a2, a3, a4, a5, a6, a7⟩, _⟩ := cells8R V5.out
          have hz4 := lt_of_block V4.out
          have hz5 := lt_of_block V5.out
          go_wp2_with fail
          refine bodyPost_ret (v := .agg #[.int .i64 2, .string ⟨#[]⟩, .int .i64 ty, .int .i64 tn, .string ts, .slice tA tm tc, .slice bA bl.length bc, .slice eA el.length ec]) (by simp [results, Tryd.results28, go_sem, c0, c1, c2, c3, c4, c5, c6, c7]) rfl ?_
          rw [GG.out]
          exact finRO (F := fun b => Made u4 u5 b ∨ Made u13 u18 b ∨ Made u31 u36 b) ⟨2, ⟨#[]⟩, ty, tn, ts, tA, tm, tc, bA, bl.length, bc, eA, el.length, ec⟩ HG4.out KK.out RR.out HA4.out hn4r (StO.mk' (T := Made u4 u5) (B := Made u13 u18) (E := Made u31 u36) (show i64in 2 from by unfold i64in; omega) (Nat.zero_le _) TT.out rfl hb1 hb2 Rb.out rfl he1 he2 Re.out (fun _ h => .inl h) (fun _ h => .inr (.inl h)) (fun _ h => .inr (.inr h)) (fun b h1 h2 => by have := h1.2; have := h2.1; have := HTB.out; omega) (fun b h1 h2 => by have := h1.2; have := h2.1; have := HTE.out; omega) (fun b h1 h2 => by have := h1.2; have := h2.1; have := HBE.out; omega)) (fun b h => by rcases h with h | h | h; all_goals (have h1 := h.1; have h2 := h.2; have := ST.out; have := SL.out; have := Sb.out; have := Lb.out; have := Se.out; have := Le.out; have := HG5.out; constructor <;> omega))
end Go.Proofs.YtdanlgmpgdipnaaDoor
