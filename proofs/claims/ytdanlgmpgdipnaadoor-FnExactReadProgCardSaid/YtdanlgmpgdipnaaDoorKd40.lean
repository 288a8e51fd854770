/- Several texts in one: RsNm. -/
import Derived.Test.YtdanlgmpgdipnaaDoorKd38
import Derived.Test.YtdanlgmpgdipnaaDoorKd39
namespace Go.Proofs.YtdanlgmpgdipnaaDoor
open Go.RowKit
set_option linter.unusedVariables false


def GsNm (w w' : World) (rb : Nat) (A : Option Addr) (c n : Nat) (L : List Sg) (lf : Int) (g : Got (List ByteArray)) (e : Ending) : Prop :=
  KeepR rb w w' ∧ ∃ A' m c', e = .returned (.slice A' m c') ∧ match g with
    | .ok l q => m = l.length ∧ m ≤ c' ∧ c' ≤ maxLen ∧ StrRowO w' (fun b => w.heap.size ≤ b ∧ b < w'.heap.size) A' l ∧ RsAt w' rb A c n q L 0 0 lf
    | .bad fc fp => ¬ fc = 0 ∧ ∃ q, RsAt w' rb A c n q L fc fp lf
/-- where the reader stands at the head of its loop -/
def headR (L : List Sg) (n : Nat) (acc : List ByteArray) (j : Nat) : Got (List ByteArray) :=
  if acc.length = 0 then (if tx L j = ⟨#[59]⟩ then .ok [] (j + 1) else nmR L n 6 [] j) else resR L n (6 - acc.length) acc j
theorem headR_more {L : List Sg} {n j : Nat} {acc : List ByteArray} (h : ¬ acc.length = 0) : headR L n acc j = resR L n (6 - acc.length) acc j := by unfold headR; rw [if_neg h]
theorem headR_end {L : List Sg} {n j : Nat} {acc : List ByteArray} (h : tx L j = ⟨#[59]⟩) : headR L n acc j = .ok acc (j + 1) := by
  unfold headR
  by_cases h0 : acc.length = 0
  · rw [if_pos h0, if_pos h, List.eq_nil_of_length_eq_zero h0]
  · rw [if_neg h0, resR_end h]
theorem headR_first {L : List Sg} {n j : Nat} {acc : List ByteArray} (h : ¬ tx L j = ⟨#[59]⟩) (h0 : acc.length = 0) : headR L n acc j = nmR L n 6 acc j := by
  unfold headR
  rw [if_pos h0, if_neg h, List.eq_nil_of_length_eq_zero h0]
theorem nmR_name' {L : List Sg} {n r r' i : Nat} {acc : List ByteArray} (h : nmB L i = true) (hr : r = r' + 1) : nmR L n r acc i = resR L n r' (acc ++ [tx L i]) (i + 1) := by rw [hr, nmR_name h]
theorem nmsG_head {L : List Sg} {n i : Nat} {word : ByteArray} (h : tx L i = word) : nmsG L n word 6 i = headR L n [] (i + 1) := by
  unfold nmsG headR
  rw [tk_ok h, bind_ok]
  rfl
set_option maxHeartbeats 1600000 in
set_option maxRecDepth 100000 in
theorem rs_name_fault (w : World) (rb : Nat) (A : Option Addr) (c n i : Nat) (L : List Sg) (fc : Int) (fp : Nat) (lf : Int) (h : RsAt w rb A c n i L fc fp lf) (hf : ¬ fc = 0) :
    Calls Tryd.prog 15 #[.pointer (some ⟨rb, 0, none⟩)] w fun e w' => e = .returned (.string ⟨#[]⟩) ∧ Below w.heap.size w w' := by
  have RR := Lib.hid h
  have HF := Lib.hid hf
  clear h hf
  go_enter Tryd.func15, Tryd.ntmps15
  go_wp2_with fail
  refine (rs_named_fault _ rb A c n i L fc fp lf RR.out HF.out).mono ?_
  rintro e w1 ⟨rfl, b1⟩
  have R1 := Lib.hid (RR.out.below b1)
  have B1 := Lib.hid b1
  clear b1
  go_wp2_with fail
  refine (rs_bad2 3 _ rb A c n i L fc fp lf R1.out HF.out).mono ?_
  rintro e w2 ⟨rfl, rfl⟩
  go_wp2_with fail
  go_ret
  exact ⟨rfl, B1.out⟩
set_option maxHeartbeats 1600000 in
set_option maxRecDepth 100000 in
theorem rs_list_fault (word : ByteArray) (hw : word ≠ ⟨#[]⟩) (most : Int) (w : World) (rb : Nat) (A : Option Addr) (c n i : Nat) (L : List Sg) (fc : Int) (fp : Nat) (lf : Int) (h : RsAt w rb A c n i L fc fp lf) (hf : ¬ fc = 0) :
    Calls Tryd.prog 11 #[.pointer (some ⟨rb, 0, none⟩), .string word, .int .i64 most] w fun e w' => ∃ A' c', e = .returned (.slice A' 0 c') ∧ Below w.heap.size w w' := by
  have RR := Lib.hid h
  have HF := Lib.hid hf
  have hfb : (fc == 0) = false := beq_eq_false_iff_ne.2 hf
  have hrb := h.lt
  clear h hf
  go_enter Tryd.func11, Tryd.ntmps11
  go_wp2_with fail
  refine (rs_take2 word _ rb A c n i L fc fp lf (RR.out.below (by repeat' (first | exact Below.refl _ _ | exact Nat.le_refl _ | (refine Below.alloc ?_ ?_ _) | (refine Below.setCell ?_ ?_ _) | (refine Below.drew ?_) | (refine below_drewN ?_ _) | assumption | (simp; done) | (simp; omega)))) hw HF.out).mono ?_
  rintro e w1 ⟨rfl, b1⟩
  have B1 : Hid (Below w.heap.size w w1) := Lib.hid ((Below.alloc (Below.refl _ _) (Nat.le_refl _) (.cells #[] 9)).trans (b1.mono (by simp)))
  clear b1
  go_wp2_with fail
  go_loopw [7] (fun v wr => ∃ A' c', v = .slice A' 0 c' ∧ Hid (Below w.heap.size w wr)) (fun _ _ => 0)
  case atStart => exact ⟨_, _, rfl, B1⟩
  case round =>
    obtain ⟨A', c', rfl, HB⟩ := hrel
    have R1 := Lib.hid (RR.out.below HB.out)
    have p3 := R1.out.cs.2.2.2.1
    go_wp2_with fail
    refine (rs_take2 ⟨#[59]⟩ _ rb A c n i L fc fp lf R1.out (by decide) HF.out).mono ?_
    rintro e w2 ⟨rfl, b2⟩
    have B2 := Lib.hid (below_then HB.out b2)
    clear b2 p3
    go_wp2_with fail
    go_ret
    exact ⟨A', c', rfl, B2.out⟩
set_option maxHeartbeats 6400000 in
set_option maxRecDepth 100000 in
theorem rs_list (word : ByteArray) (hw : word ≠ ⟨#[]⟩) (w : World) (rb : Nat) (A : Option Addr) (c n i : Nat) (L : List Sg) (lf : Int) (hs : SgsOk L) (hA : ∀ b o, A = some ⟨b, o, none⟩ → b < w.heap.size) (h : RsAt w rb A c n i L 0 0 lf) :
    Calls Tryd.prog 11 #[.pointer (some ⟨rb, 0, none⟩), .string word, .int .i64 6] w fun e w' => GsNm w w' rb A c n L lf (nmsG L n word 6 i) e := by
  have RA := Lib.hid h
  have HA := Lib.hid hA
  have HS := Lib.hid hs
  have hrb := h.lt
  have hL6 := h.hL
  clear h hA hs
  go_enter Tryd.func11, Tryd.ntmps11
  go_wp2_with fail
  have BA : Hid (Below w.heap.size w (w.alloc (.cells #[] 9))) := Lib.hid (by repeat' (first | exact Below.refl _ _ | exact Nat.le_refl _ | (refine Below.alloc ?_ ?_ _) | (refine Below.setCell ?_ ?_ _) | (refine Below.drew ?_) | (refine below_drewN ?_ _) | assumption | (simp; done) | (simp; omega)))
  have GA0 : Hid (GrwS w.heap.size (w.alloc (.cells #[] 9)) (.slice (some ⟨w.heap.size, 0, none⟩) 0 0) []) := Lib.hid (GrwS.empty (Nat.le_refl _))
  refine (rs_take word _ rb A c n i L 0 lf (RA.out.below BA.out) hw).mono ?_
  rintro e w1 ⟨rfl, k1, hret⟩
  have K1 : Hid (KeepR rb w w1) := Lib.hid ((KeepR.of_below' BA.out).trans' k1)
  have G1 := Lib.hid (GA0.out.keep k1 (fun b hb _ => by show b ≠ rb; omega))
  have HRET := Lib.hid hret
  clear k1 hret BA GA0
  go_wp2_with fail
  go_loopw [7] (fun v wr => ∃ (acc : List ByteArray), Hid ((∃ j : Nat, acc.length ≤ 6 ∧ j ≤ L.length ∧ GrwS w.heap.size wr v acc ∧ RsAt wr rb A c n j L 0 0 lf ∧ KeepR rb w wr ∧ nmsG L n word 6 i = headR L n acc j)
      ∨ (∃ (fc : Int) (fp q : Nat) (A' : Option Addr) (m c' : Nat), v = .slice A' m c' ∧ ¬ fc = 0 ∧ RsAt wr rb A c n q L fc fp lf ∧ KeepR rb w wr ∧ nmsG L n word 6 i = .bad fc fp))) (fun _ wr => msOf L wr rb)
  case atStart =>
    refine ⟨[], Lib.hid ?_⟩
    rcases HRET.out with ⟨ht, r1⟩ | ⟨ht, r1⟩
    · exact .inl ⟨i + 1, Nat.zero_le _, there_of (by rw [ht]; exact hw), G1.out, r1, K1.out, nmsG_head ht⟩
    · exact .inr ⟨3, posAt L n i, i, _, _, _, rfl, by decide, r1, K1.out, nmsG_bad ht⟩
  case round =>
    rename World => wr
    obtain ⟨acc, HR⟩ := hrel
    rcases HR.out with ⟨j, ha6, hjL, hgr, hrs, hkp, hch⟩ | ⟨fc, fp, q, A', m, c', rfl, hfc, hrs, hkp, hch⟩
    case inr =>
      have R0 := Lib.hid hrs
      have K0 := Lib.hid hkp
      have HF := Lib.hid hfc
      have CH := Lib.hid hch
      have hfb : (fc == 0) = false := beq_eq_false_iff_ne.2 hfc
      have p3 := hrs.cs.2.2.2.1
      clear hrs hkp hfc hch HR
      go_wp2_with fail
      refine (rs_take2 ⟨#[59]⟩ _ rb A c n q L fc fp lf R0.out (by decide) HF.out).mono ?_
      rintro e w2 ⟨rfl, b2⟩
      have B2 := Lib.hid b2
      clear b2 p3
      go_wp2_with fail
      go_ret
      rw [CH.out]
      exact ⟨K0.out.trans' (KeepR.of_below' B2.out), A', m, c', rfl, HF.out, q, R0.out.below B2.out⟩
    obtain ⟨A', c', rfl, hc1, hc2⟩ := hgr.slice
    have G0 := Lib.hid hgr
    have R0 := Lib.hid hrs
    have K0 := Lib.hid hkp
    have CH := Lib.hid hch
    have MS := Lib.hid (ms_ok hrs)
    have hj6 := hrs.hi
    have p3 := hrs.cs.2.2.2.1
    clear hgr hrs hkp hch HR
    go_wp2_with fail
    refine (rs_is ⟨#[59]⟩ _ rb A c n j L 0 0 lf R0.out (by decide)).mono ?_
    rintro e w2 ⟨rfl, b2⟩
    rw [kd1]
    have RX := Lib.hid (R0.out.below b2)
    have GX := Lib.hid (G0.out.below b2)
    have KX : Hid (KeepR rb w w2) := Lib.hid (K0.out.trans' (KeepR.of_below' b2))
    clear b2 p3 R0 G0 K0
    by_cases hse : tx L j = ⟨#[59]⟩
    · rw [decide_eq_true hse]
      have GG : Hid (nmsG L n word 6 i = .ok acc (j + 1)) := Lib.hid (by rw [CH.out, headR_end hse])
      have HSE := Lib.hid hse
      clear hse
      go_wp2_with fail
      refine (rs_take ⟨#[59]⟩ _ rb A c n j L 0 lf RX.out (by decide)).mono ?_
      rintro e w3 ⟨rfl, k3, hret⟩
      rcases hret with ⟨_, r3⟩ | ⟨hno, _⟩
      case inr => exact absurd HSE.out hno
      have R3 := Lib.hid r3
      have G3 := Lib.hid (GX.out.keep k3 (fun b hb _ => by show b ≠ rb; omega))
      have K3 : Hid (KeepR rb w w3) := Lib.hid (KX.out.trans' k3)
      clear r3 k3
      go_wp2_with fail
      go_ret
      rw [GG.out]
      exact ⟨K3.out, A', acc.length, c', rfl, rfl, hc1, hc2, G3.out.row, R3.out⟩
    rw [decide_eq_false hse]
    by_cases h0 : acc.length = 0
    · replace CH : Hid (nmsG L n word 6 i = nmR L n 6 acc j) := Lib.hid (by rw [CH.out, headR_first hse h0])
      have h0i : ¬ (0 : Int) < (acc.length : Int) := by omega
      have h6i : ((acc.length : Int) == 6) = false := beq_eq_false_iff_ne.2 (by omega)
      have H0 := Lib.hid h0
      clear hse h0
      go_wp2_with fail
      refine (rs_name _ rb A c n j L 0 lf RX.out HS.out).mono ?_
      rintro e w5 ⟨k5, hret⟩
      have G5 := Lib.hid (GX.out.keep k5 (fun b hb _ => by show b ≠ rb; omega))
      have K5 : Hid (KeepR rb w w5) := Lib.hid (KX.out.trans' k5)
      clear k5 GX KX RX
      rename Hid (GrwS w.heap.size w5 (.slice A' acc.length c') acc) => GX
      rename Hid (KeepR rb w w5) => KX
      rcases hret with ⟨hn, rfl, r5⟩ | ⟨hn, rfl, r5⟩
      · have RX := Lib.hid r5
        have HSZ := Lib.hid (name_sz hn)
        have hjl := there_n hn
        skip
        have GG : Hid (nmsG L n word 6 i = resR L n (6 - (acc.length + 1)) (acc ++ [tx L j]) (j + 1)) := Lib.hid (by rw [CH.out, nmR_name' hn (r' := 6 - (acc.length + 1)) (by first | omega | (have := H0.out; omega))])
        obtain ⟨T, hT⟩ : ∃ T, tx L j = T := ⟨_, rfl⟩
        rw [hT] at HSZ GG ⊢
        clear r5 hn hT
        have OW := Lib.hid GX.out.1.own
        go_wp2_with (at_builtin; refine wpList_appG_new w5.heap.size rfl rfl _ _ _ rfl strT OW.out _ 1 rfl rfl rfl (by simp [Value.oneCell']) (by simp only [maxLen]; omega) (by omega) ?_; intro v6 w6 own6 gr6)
        have OKB : Hid (∀ b, b < w.heap.size → (.slice A' acc.length c' : Value).ownBlock ≠ some b) := Lib.hid fun b hb e => by have := GX.out.1.lt b e; omega
        have BG : Hid (Keep (fun b => b < w.heap.size) w5 w6) := Lib.hid (gr6.keep.mono fun b _ hb => OKB.out b hb)
        have R6 : Hid (RsAt w6 rb A c n (j + 1) L 0 0 lf) := Lib.hid (RX.out.keepS BG.out hrb (fun b o e => ⟨HA.out b o e, Nat.lt_of_lt_of_le (HA.out b o e) KX.out.size⟩))
        have K6 : Hid (KeepR rb w w6) := Lib.hid (KX.out.trans BG.out (fun b hb _ => hb))
        have G6 : Hid (GrwS w.heap.size w6 v6 (acc ++ [T])) := Lib.hid (GX.out.app HSZ.out own6)
        have MT := Lib.hid (ms_ok R6.out)
        clear own6 gr6
        go_wp2_with fail
        go_roundw
        case rel => exact ⟨acc ++ [T], Lib.hid (.inl ⟨(j + 1), by simp; first | omega | (have := H0.out; omega), by omega, G6.out, R6.out, K6.out, by rw [GG.out, headR_more (by simp)]; simp⟩)⟩
        case measure =>
          have h1 := MS.out
          have h2 := MT.out
          rw [h1, h2]
          omega
      · have RX := Lib.hid r5
        have HF : Hid (¬ (3 : Int) = 0) := Lib.hid (by decide)
        have GG : Hid (nmsG L n word 6 i = .bad 3 (posAt L n j)) := Lib.hid (by rw [CH.out, nmR_none hn])
        clear r5 hn
        have OW := Lib.hid GX.out.1.own
        go_wp2_with (at_builtin; refine wpList_appG_new w5.heap.size rfl rfl _ _ _ rfl strT OW.out _ 1 rfl rfl rfl (by simp [Value.oneCell']) (by simp only [maxLen]; omega) (by omega) ?_; intro v6 w6 own6 gr6)
        have OKB : Hid (∀ b, b < w.heap.size → (.slice A' acc.length c' : Value).ownBlock ≠ some b) := Lib.hid fun b hb e => by have := GX.out.1.lt b e; omega
        have BG : Hid (Keep (fun b => b < w.heap.size) w5 w6) := Lib.hid (gr6.keep.mono fun b _ hb => OKB.out b hb)
        have R6 : Hid (RsAt w6 rb A c n j L 3 (posAt L n j) lf) := Lib.hid (RX.out.keepS BG.out hrb (fun b o e => ⟨HA.out b o e, Nat.lt_of_lt_of_le (HA.out b o e) KX.out.size⟩))
        have K6 : Hid (KeepR rb w w6) := Lib.hid (KX.out.trans BG.out (fun b hb _ => hb))
        obtain ⟨A3, c3, rfl, _⟩ := own6.slice
        have MT := Lib.hid (ms_bad R6.out HF.out)
        clear own6 gr6
        go_wp2_with fail
        go_roundw
        case rel => exact ⟨acc, Lib.hid (.inr ⟨3, (posAt L n j), j, A3, acc.length + 1, c3, rfl, HF.out, R6.out, K6.out, GG.out⟩)⟩
        case measure =>
          have h1 := MS.out
          have h2 := MT.out
          rw [h1, h2]
          omega
    have h0i : (0 : Int) < (acc.length : Int) := by omega
    replace CH : Hid (nmsG L n word 6 i = resR L n (6 - acc.length) acc j) := Lib.hid (by rw [CH.out, headR_more h0])
    have HSE := Lib.hid hse
    have hjt : tx L j = ⟨#[44]⟩ → j < L.length := fun h => there_of (by rw [h]; decide)
    clear hse
    go_wp2_with fail
    refine (rs_take ⟨#[44]⟩ _ rb A c n j L 0 lf RX.out (by decide)).mono ?_
    rintro e w3 ⟨rfl, k3, hret⟩
    have G3 := Lib.hid (GX.out.keep k3 (fun b hb _ => by show b ≠ rb; omega))
    have K3 : Hid (KeepR rb w w3) := Lib.hid (KX.out.trans' k3)
    clear k3 GX KX RX
    rename Hid (GrwS w.heap.size w3 (.slice A' acc.length c') acc) => GX
    rename Hid (KeepR rb w w3) => KX
    rcases hret with ⟨ht, r3⟩ | ⟨ht, r3⟩
    · have RX := Lib.hid r3
      have hjl0 := hjt ht
      replace CH : Hid (nmsG L n word 6 i = nmR L n (6 - acc.length) acc (j + 1)) := Lib.hid (by rw [CH.out, resR_comma ht])
      clear r3 ht hjt
      by_cases h6 : acc.length = 6
      · have h6i : ((acc.length : Int) == 6) = true := by rw [beq_iff_eq]; omega
        have H6 := Lib.hid h6
        clear h6
        go_wp2_with fail
        refine (rs_named _ rb A c n (j + 1) L 0 0 lf RX.out HS.out).mono ?_
        rintro e w4 ⟨rfl, b4⟩
        rw [kd2]
        have G4 := Lib.hid (GX.out.below b4)
        have K4 : Hid (KeepR rb w w4) := Lib.hid (KX.out.trans' (KeepR.of_below' b4))
        have R4 := Lib.hid (RX.out.below b4)
        clear b4 GX KX RX
        cases hn : nmB L (j + 1) with
        | true =>
          have GG : Hid (nmsG L n word 6 i = .bad 5 (posAt L n (j + 1))) := Lib.hid (by rw [CH.out, H6.out]; exact nmR_full hn)
          have HF : Hid (¬ (5 : Int) = 0) := Lib.hid (by decide)
          clear hn
          go_wp2_with fail
          refine (rs_bad 5 _ rb A c n (j + 1) L 0 lf R4.out).mono ?_
          rintro e w8 ⟨rfl, r8, k8⟩
          have RX := Lib.hid r8
          have GX := Lib.hid (G4.out.keep k8 (fun b hb _ => by show b ≠ rb; omega))
          have KX : Hid (KeepR rb w w8) := Lib.hid (K4.out.trans' k8)
          clear r8 k8 G4 K4 R4
          go_wp2_with fail
          refine (rs_name_fault _ rb A c n (j + 1) L 5 (posAt L n (j + 1)) lf RX.out HF.out).mono ?_
          rintro e w5 ⟨rfl, b5⟩
          have G5 := Lib.hid (GX.out.below b5)
          have K5 : Hid (KeepR rb w w5) := Lib.hid (KX.out.trans' (KeepR.of_below' b5))
          have R5 := Lib.hid (RX.out.below b5)
          clear b5 GX KX RX
          rename Hid (GrwS w.heap.size w5 (.slice A' acc.length c') acc) => GX
          rename Hid (KeepR rb w w5) => KX
          rename Hid (RsAt w5 rb A c n (j + 1) L 5 (posAt L n (j + 1)) lf) => RX
          have OW := Lib.hid GX.out.1.own
          go_wp2_with (at_builtin; refine wpList_appG_new w5.heap.size rfl rfl _ _ _ rfl strT OW.out _ 1 rfl rfl rfl (by simp [Value.oneCell']) (by simp only [maxLen]; omega) (by omega) ?_; intro v6 w6 own6 gr6)
          have OKB : Hid (∀ b, b < w.heap.size → (.slice A' acc.length c' : Value).ownBlock ≠ some b) := Lib.hid fun b hb e => by have := GX.out.1.lt b e; omega
          have BG : Hid (Keep (fun b => b < w.heap.size) w5 w6) := Lib.hid (gr6.keep.mono fun b _ hb => OKB.out b hb)
          have R6 : Hid (RsAt w6 rb A c n (j + 1) L 5 (posAt L n (j + 1)) lf) := Lib.hid (RX.out.keepS BG.out hrb (fun b o e => ⟨HA.out b o e, Nat.lt_of_lt_of_le (HA.out b o e) KX.out.size⟩))
          have K6 : Hid (KeepR rb w w6) := Lib.hid (KX.out.trans BG.out (fun b hb _ => hb))
          obtain ⟨A3, c3, rfl, _⟩ := own6.slice
          have MT := Lib.hid (ms_bad R6.out HF.out)
          clear own6 gr6
          go_wp2_with fail
          go_roundw
          case rel => exact ⟨acc, Lib.hid (.inr ⟨5, (posAt L n (j + 1)), (j + 1), A3, acc.length + 1, c3, rfl, HF.out, R6.out, K6.out, GG.out⟩)⟩
          case measure =>
            have h1 := MS.out
            have h2 := MT.out
            rw [h1, h2]
            omega
        | false =>
          have GG : Hid (nmsG L n word 6 i = .bad 3 (posAt L n (j + 1))) := Lib.hid (by rw [CH.out, nmR_none hn])
          have HN := Lib.hid hn
          have HF : Hid (¬ (3 : Int) = 0) := Lib.hid (by decide)
          clear hn
          go_wp2_with fail
          refine (rs_name _ rb A c n (j + 1) L 0 lf R4.out HS.out).mono ?_
          rintro e w5 ⟨k5, hret⟩
          rcases hret with ⟨hno, _, _⟩ | ⟨_, rfl, r5⟩
          case inl => rw [HN.out] at hno; cases hno
          have RX := Lib.hid r5
          have GX := Lib.hid (G4.out.keep k5 (fun b hb _ => by show b ≠ rb; omega))
          have KX : Hid (KeepR rb w w5) := Lib.hid (K4.out.trans' k5)
          clear r5 k5 G4 K4 R4
          have OW := Lib.hid GX.out.1.own
          go_wp2_with (at_builtin; refine wpList_appG_new w5.heap.size rfl rfl _ _ _ rfl strT OW.out _ 1 rfl rfl rfl (by simp [Value.oneCell']) (by simp only [maxLen]; omega) (by omega) ?_; intro v6 w6 own6 gr6)
          have OKB : Hid (∀ b, b < w.heap.size → (.slice A' acc.length c' : Value).ownBlock ≠ some b) := Lib.hid fun b hb e => by have := GX.out.1.lt b e; omega
          have BG : Hid (Keep (fun b => b < w.heap.size) w5 w6) := Lib.hid (gr6.keep.mono fun b _ hb => OKB.out b hb)
          have R6 : Hid (RsAt w6 rb A c n (j + 1) L 3 (posAt L n (j + 1)) lf) := Lib.hid (RX.out.keepS BG.out hrb (fun b o e => ⟨HA.out b o e, Nat.lt_of_lt_of_le (HA.out b o e) KX.out.size⟩))
          have K6 : Hid (KeepR rb w w6) := Lib.hid (KX.out.trans BG.out (fun b hb _ => hb))
          obtain ⟨A3, c3, rfl, _⟩ := own6.slice
          have MT := Lib.hid (ms_bad R6.out HF.out)
          clear own6 gr6
          go_wp2_with fail
          go_roundw
          case rel => exact ⟨acc, Lib.hid (.inr ⟨3, (posAt L n (j + 1)), (j + 1), A3, acc.length + 1, c3, rfl, HF.out, R6.out, K6.out, GG.out⟩)⟩
          case measure =>
            have h1 := MS.out
            have h2 := MT.out
            rw [h1, h2]
            omega
      · have h6i : ((acc.length : Int) == 6) = false := beq_eq_false_iff_ne.2 (by omega)
        go_wp2_with fail
        refine (rs_name _ rb A c n (j + 1) L 0 lf RX.out HS.out).mono ?_
        rintro e w5 ⟨k5, hret⟩
        have G5 := Lib.hid (GX.out.keep k5 (fun b hb _ => by show b ≠ rb; omega))
        have K5 : Hid (KeepR rb w w5) := Lib.hid (KX.out.trans' k5)
        clear k5 GX KX RX
        rename Hid (GrwS w.heap.size w5 (.slice A' acc.length c') acc) => GX
        rename Hid (KeepR rb w w5) => KX
        rcases hret with ⟨hn, rfl, r5⟩ | ⟨hn, rfl, r5⟩
        · have RX := Lib.hid r5
          have HSZ := Lib.hid (name_sz hn)
          have hjl := there_n hn
          skip
          have GG : Hid (nmsG L n word 6 i = resR L n (6 - (acc.length + 1)) (acc ++ [tx L (j + 1)]) ((j + 1) + 1)) := Lib.hid (by rw [CH.out, nmR_name' hn (r' := 6 - (acc.length + 1)) (by first | omega | (have := H0.out; omega))])
          obtain ⟨T, hT⟩ : ∃ T, tx L (j + 1) = T := ⟨_, rfl⟩
          rw [hT] at HSZ GG ⊢
          clear r5 hn hT
          have OW := Lib.hid GX.out.1.own
          go_wp2_with (at_builtin; refine wpList_appG_new w5.heap.size rfl rfl _ _ _ rfl strT OW.out _ 1 rfl rfl rfl (by simp [Value.oneCell']) (by simp only [maxLen]; omega) (by omega) ?_; intro v6 w6 own6 gr6)
          have OKB : Hid (∀ b, b < w.heap.size → (.slice A' acc.length c' : Value).ownBlock ≠ some b) := Lib.hid fun b hb e => by have := GX.out.1.lt b e; omega
          have BG : Hid (Keep (fun b => b < w.heap.size) w5 w6) := Lib.hid (gr6.keep.mono fun b _ hb => OKB.out b hb)
          have R6 : Hid (RsAt w6 rb A c n ((j + 1) + 1) L 0 0 lf) := Lib.hid (RX.out.keepS BG.out hrb (fun b o e => ⟨HA.out b o e, Nat.lt_of_lt_of_le (HA.out b o e) KX.out.size⟩))
          have K6 : Hid (KeepR rb w w6) := Lib.hid (KX.out.trans BG.out (fun b hb _ => hb))
          have G6 : Hid (GrwS w.heap.size w6 v6 (acc ++ [T])) := Lib.hid (GX.out.app HSZ.out own6)
          have MT := Lib.hid (ms_ok R6.out)
          clear own6 gr6
          go_wp2_with fail
          go_roundw
          case rel => exact ⟨acc ++ [T], Lib.hid (.inl ⟨((j + 1) + 1), by simp; first | omega | (have := H0.out; omega), by omega, G6.out, R6.out, K6.out, by rw [GG.out, headR_more (by simp)]; simp⟩)⟩
          case measure =>
            have h1 := MS.out
            have h2 := MT.out
            rw [h1, h2]
            omega
        · have RX := Lib.hid r5
          have HF : Hid (¬ (3 : Int) = 0) := Lib.hid (by decide)
          have GG : Hid (nmsG L n word 6 i = .bad 3 (posAt L n (j + 1))) := Lib.hid (by rw [CH.out, nmR_none hn])
          clear r5 hn
          have OW := Lib.hid GX.out.1.own
          go_wp2_with (at_builtin; refine wpList_appG_new w5.heap.size rfl rfl _ _ _ rfl strT OW.out _ 1 rfl rfl rfl (by simp [Value.oneCell']) (by simp only [maxLen]; omega) (by omega) ?_; intro v6 w6 own6 gr6)
          have OKB : Hid (∀ b, b < w.heap.size → (.slice A' acc.length c' : Value).ownBlock ≠ some b) := Lib.hid fun b hb e => by have := GX.out.1.lt b e; omega
          have BG : Hid (Keep (fun b => b < w.heap.size) w5 w6) := Lib.hid (gr6.keep.mono fun b _ hb => OKB.out b hb)
          have R6 : Hid (RsAt w6 rb A c n (j + 1) L 3 (posAt L n (j + 1)) lf) := Lib.hid (RX.out.keepS BG.out hrb (fun b o e => ⟨HA.out b o e, Nat.lt_of_lt_of_le (HA.out b o e) KX.out.size⟩))
          have K6 : Hid (KeepR rb w w6) := Lib.hid (KX.out.trans BG.out (fun b hb _ => hb))
          obtain ⟨A3, c3, rfl, _⟩ := own6.slice
          have MT := Lib.hid (ms_bad R6.out HF.out)
          clear own6 gr6
          go_wp2_with fail
          go_roundw
          case rel => exact ⟨acc, Lib.hid (.inr ⟨3, (posAt L n (j + 1)), (j + 1), A3, acc.length + 1, c3, rfl, HF.out, R6.out, K6.out, GG.out⟩)⟩
          case measure =>
            have h1 := MS.out
            have h2 := MT.out
            rw [h1, h2]
            omega
    · have RX := Lib.hid r3
      have HF : Hid (¬ (3 : Int) = 0) := Lib.hid (by decide)
      have GG : Hid (nmsG L n word 6 i = .bad 3 (posAt L n j)) := Lib.hid (by rw [CH.out, resR_bad ht HSE.out])
      clear r3 ht hjt
      by_cases h6 : acc.length = 6
      · have h6i : ((acc.length : Int) == 6) = true := by rw [beq_iff_eq]; omega
        clear h6
        go_wp2_with fail
        refine (rs_named_fault _ rb A c n j L 3 (posAt L n j) lf RX.out HF.out).mono ?_
        rintro e w4 ⟨rfl, b4⟩
        have G4 := Lib.hid (GX.out.below b4)
        have K4 : Hid (KeepR rb w w4) := Lib.hid (KX.out.trans' (KeepR.of_below' b4))
        have R4 := Lib.hid (RX.out.below b4)
        clear b4 GX KX RX
        rename Hid (GrwS w.heap.size w4 (.slice A' acc.length c') acc) => GX
        rename Hid (KeepR rb w w4) => KX
        rename Hid (RsAt w4 rb A c n j L 3 (posAt L n j) lf) => RX
        go_wp2_with fail
        refine (rs_name_fault _ rb A c n j L 3 (posAt L n j) lf RX.out HF.out).mono ?_
        rintro e w5 ⟨rfl, b5⟩
        have G5 := Lib.hid (GX.out.below b5)
        have K5 : Hid (KeepR rb w w5) := Lib.hid (KX.out.trans' (KeepR.of_below' b5))
        have R5 := Lib.hid (RX.out.below b5)
        clear b5 GX KX RX
        rename Hid (GrwS w.heap.size w5 (.slice A' acc.length c') acc) => GX
        rename Hid (KeepR rb w w5) => KX
        rename Hid (RsAt w5 rb A c n j L 3 (posAt L n j) lf) => RX
        have OW := Lib.hid GX.out.1.own
        go_wp2_with (at_builtin; refine wpList_appG_new w5.heap.size rfl rfl _ _ _ rfl strT OW.out _ 1 rfl rfl rfl (by simp [Value.oneCell']) (by simp only [maxLen]; omega) (by omega) ?_; intro v6 w6 own6 gr6)
        have OKB : Hid (∀ b, b < w.heap.size → (.slice A' acc.length c' : Value).ownBlock ≠ some b) := Lib.hid fun b hb e => by have := GX.out.1.lt b e; omega
        have BG : Hid (Keep (fun b => b < w.heap.size) w5 w6) := Lib.hid (gr6.keep.mono fun b _ hb => OKB.out b hb)
        have R6 : Hid (RsAt w6 rb A c n j L 3 (posAt L n j) lf) := Lib.hid (RX.out.keepS BG.out hrb (fun b o e => ⟨HA.out b o e, Nat.lt_of_lt_of_le (HA.out b o e) KX.out.size⟩))
        have K6 : Hid (KeepR rb w w6) := Lib.hid (KX.out.trans BG.out (fun b hb _ => hb))
        obtain ⟨A3, c3, rfl, _⟩ := own6.slice
        have MT := Lib.hid (ms_bad R6.out HF.out)
        clear own6 gr6
        go_wp2_with fail
        go_roundw
        case rel => exact ⟨acc, Lib.hid (.inr ⟨3, (posAt L n j), j, A3, acc.length + 1, c3, rfl, HF.out, R6.out, K6.out, GG.out⟩)⟩
        case measure =>
          have h1 := MS.out
          have h2 := MT.out
          rw [h1, h2]
          omega
      · have h6i : ((acc.length : Int) == 6) = false := beq_eq_false_iff_ne.2 (by omega)
        go_wp2_with fail
        refine (rs_name_fault _ rb A c n j L 3 (posAt L n j) lf RX.out HF.out).mono ?_
        rintro e w5 ⟨rfl, b5⟩
        have G5 := Lib.hid (GX.out.below b5)
        have K5 : Hid (KeepR rb w w5) := Lib.hid (KX.out.trans' (KeepR.of_below' b5))
        have R5 := Lib.hid (RX.out.below b5)
        clear b5 GX KX RX
        rename Hid (GrwS w.heap.size w5 (.slice A' acc.length c') acc) => GX
        rename Hid (KeepR rb w w5) => KX
        rename Hid (RsAt w5 rb A c n j L 3 (posAt L n j) lf) => RX
        have OW := Lib.hid GX.out.1.own
        go_wp2_with (at_builtin; refine wpList_appG_new w5.heap.size rfl rfl _ _ _ rfl strT OW.out _ 1 rfl rfl rfl (by simp [Value.oneCell']) (by simp only [maxLen]; omega) (by omega) ?_; intro v6 w6 own6 gr6)
        have OKB : Hid (∀ b, b < w.heap.size → (.slice A' acc.length c' : Value).ownBlock ≠ some b) := Lib.hid fun b hb e => by have := GX.out.1.lt b e; omega
        have BG : Hid (Keep (fun b => b < w.heap.size) w5 w6) := Lib.hid (gr6.keep.mono fun b _ hb => OKB.out b hb)
        have R6 : Hid (RsAt w6 rb A c n j L 3 (posAt L n j) lf) := Lib.hid (RX.out.keepS BG.out hrb (fun b o e => ⟨HA.out b o e, Nat.lt_of_lt_of_le (HA.out b o e) KX.out.size⟩))
        have K6 : Hid (KeepR rb w w6) := Lib.hid (KX.out.trans BG.out (fun b hb _ => hb))
        obtain ⟨A3, c3, rfl, _⟩ := own6.slice
        have MT := Lib.hid (ms_bad R6.out HF.out)
        clear own6 gr6
        go_wp2_with fail
        go_roundw
        case rel => exact ⟨acc, Lib.hid (.inr ⟨3, (posAt L n j), j, A3, acc.length + 1, c3, rfl, HF.out, R6.out, K6.out, GG.out⟩)⟩
        case measure =>
          have h1 := MS.out
          have h2 := MT.out
          rw [h1, h2]
          omega
end Go.Proofs.YtdanlgmpgdipnaaDoor
