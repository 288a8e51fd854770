/- Several texts in one: RdNm, RdSTop, RdPr. -/
import Derived.Test.YtdanlgmpgdipnaaDoorKd39
import Derived.Test.YtdanlgmpgdipnaaDoorKd48
import Derived.Test.YtdanlgmpgdipnaaDoorKd38
namespace Go.Proofs.YtdanlgmpgdipnaaDoor
open Go.RowKit
set_option linter.unusedVariables false


/-- what reading names leaves -/
def GotNm (w w' : World) (rb : Nat) (A : Option Addr) (c n : Nat) (L : List Sg) (g : Got (List ByteArray)) (e : Ending) : Prop :=
  KeepR rb w w' ∧ match g with
    | .ok l q => ∃ A' c', e = .returned (.tuple #[.slice A' l.length c', .bool true]) ∧ l.length ≤ c' ∧ c' ≤ maxLen ∧ StrRowO w' (fun b => w.heap.size ≤ b ∧ b < w'.heap.size) A' l ∧ RdAt w' rb A c n q L 0 0
    | .bad fc fp => ∃ q A' m c', e = .returned (.tuple #[.slice A' m c', .bool false]) ∧ RdAt w' rb A c n q L fc fp
set_option maxHeartbeats 6400000 in
set_option maxRecDepth 100000 in
theorem rd_names (word : ByteArray) (hw : word ≠ ⟨#[]⟩) (w : World) (rb : Nat) (A : Option Addr) (c n i : Nat) (L : List Sg) (hA : ∀ b o, A = some ⟨b, o, none⟩ → b < w.heap.size) (h : RdAt w rb A c n i L 0 0) :
    Calls Tryd.prog 30 #[.pointer (some ⟨rb, 0, none⟩), .string word, .int .i64 6] w fun e w' => GotNm w w' rb A c n L (nmsG L n word 6 i) e := by
  have RA := Lib.hid h
  have HA := Lib.hid hA
  have hrb := h.lt
  have hL6 := h.hL
  have hfd := sg_field
  clear h hA
  go_enter Tryd.func30, Tryd.ntmps30
  go_wp2_with fail
  refine (rd_take word _ rb A c n i L 0 RA.out hw).mono ?_
  rintro e w1 ⟨k1, hret⟩
  have K1 := Lib.hid k1
  clear k1
  rcases hret with ⟨ht, rfl, r1⟩ | ⟨ht, rfl, r1⟩
  case inr =>
    have R1 := Lib.hid r1
    have GG : Hid (nmsG L n word 6 i = .bad 3 (posAt L n i)) := Lib.hid (nmsG_bad ht)
    clear r1 ht
    go_wp2_with fail
    go_ret2
    rw [GG.out]
    exact ⟨K1.out, i, none, 0, 0, rfl, R1.out⟩
  have R1 := Lib.hid r1
  have HT := Lib.hid ht
  have hil : i + 1 ≤ 6000 := r1.hi
  clear r1 ht
  go_wp2_with fail
  refine (rd_next _ rb A c n (i + 1) L 0 0 R1.out).mono ?_
  rintro e w2 ⟨rfl, b2⟩
  have R2 := Lib.hid (R1.out.below b2)
  have K2 : Hid (KeepR rb w w2) := Lib.hid (K1.out.trans' (KeepR.of_below' b2))
  clear b2
  obtain ⟨i1, hi1⟩ : ∃ j, i + 1 = j := ⟨_, rfl⟩
  by_cases hb : tx L (i + 1) = ⟨#[59]⟩
  · have GG := Lib.hid (nmsG_none (n := n) (most := 6) HT.out hb)
    have hq := txt_lity (l := [59]) hb
    have hjl : i + 1 < L.length := there_of (by rw [hb]; decide)
    rw [hi1] at R2 GG hq hjl ⊢
    generalize tx L i1 = tq at hq ⊢
    clear hb R1 hi1 hil
    obtain ⟨_, _, q2, _, _⟩ := R2.out.cs
    have g2 := R2.out.fz 2
    have hrb2 := R2.out.lt
    go_wp2_with fail
    go_ret2
    rw [GG.out]
    exact ⟨K2.out.setCell (p := ⟨rb, 2, none⟩) (by simp) _, none, 0, rfl, Nat.le_refl _, Nat.zero_le _, GrwS.row (c := 0) (GrwS.nil (by have := K2.out.size; simpa using this)), R2.out.seti (i1 + 1) (by omega)⟩
  have GS := Lib.hid (nmsG_some (n := n) (most := 6) HT.out hb)
  have hq := txt_lit (l := [59]) hb
  rw [hi1] at R2 GS hq ⊢
  generalize tx L i1 = tq at hq ⊢
  clear hb R1 hi1 hil
  go_wp2_with fail
  go_loopw [8] (fun v wr => ∃ (acc : List ByteArray) (j : Nat), acc.length ≤ 6 ∧ Hid (GrwS w.heap.size wr v acc ∧ RdAt wr rb A c n j L 0 0 ∧ KeepR rb w wr ∧ nmsG L n word 6 i = nmR L n (6 - acc.length) acc j)) (fun _ wr => L.length + 1 - atOf wr rb)
  case atStart => exact ⟨[], i1, by simp, Lib.hid ⟨GrwS.nil K2.out.size, R2.out, K2.out, GS.out⟩⟩
  case round =>
    rename World => wr
    obtain ⟨acc, j, ha6, HR⟩ := hrel
    obtain ⟨hgr, hrd, hkp, hch⟩ := HR.out
    obtain ⟨A', c', rfl, hc1, hc2⟩ := hgr.slice
    have GR := Lib.hid hgr
    have R0 := Lib.hid hrd
    have KP := Lib.hid hkp
    have CH := Lib.hid hch
    have hat := Lib.hid (atOf_rd hrd)
    clear hgr hrd hkp hch HR
    go_wp2_with fail
    refine (rd_next _ rb A c n j L 0 0 R0.out).mono ?_
    rintro e w3 ⟨rfl, b3⟩
    have R3 := Lib.hid (R0.out.below b3)
    have G3 := Lib.hid (GR.out.below b3)
    have K3 : Hid (KeepR rb w w3) := Lib.hid (KP.out.trans' (KeepR.of_below' b3))
    clear b3 GR KP R0
    go_wp2_with fail
    refine (impl_IsName _ _).mono ?_
    rintro e w4 ⟨rfl, rfl⟩
    cases hd : nmB L j with
    | false =>
      have HN : Hid (isNameL (tx L j).data.toList = false) := Lib.hid hd
      have GG : Hid (nmsG L n word 6 i = .bad 3 (posAt L n j)) := Lib.hid (by rw [CH.out, nmR_none hd])
      have HD := Lib.hid hd
      clear hd
      rw [HN.out]
      go_wp2_with fail
      refine (rd_takeName _ rb A c n j L 0 R3.out).mono ?_
      rintro e w5 ⟨k5, hret⟩
      rcases hret with ⟨hno, _, _⟩ | ⟨_, rfl, r5⟩
      case inl => rw [HD.out] at hno; cases hno
      have K5 := Lib.hid (K3.out.trans' k5)
      have R5 := Lib.hid r5
      clear k5 r5
      go_wp2_with fail
      go_ret2
      rw [GG.out]
      exact ⟨K5.out, j, none, 0, 0, rfl, R5.out⟩
    | true =>
      have HN : Hid (isNameL (tx L j).data.toList = true) := Lib.hid hd
      have HD := Lib.hid hd
      have hjl : j < L.length := there_n hd
      rw [HN.out]
      by_cases h6 : acc.length = 6
      · have GG : Hid (nmsG L n word 6 i = .bad 5 (posAt L n j)) := Lib.hid (by rw [CH.out, h6]; exact nmR_full hd)
        have h6i : ((acc.length : Int) == 6) = true := by rw [beq_iff_eq]; omega
        clear hd
        go_wp2_with fail
        refine (rd_fail 5 _ rb A c n j L 0 R3.out).mono ?_
        rintro e w5 ⟨rfl, r5, k5⟩
        have K5 := Lib.hid (K3.out.trans' k5)
        have R5 := Lib.hid r5
        clear k5 r5
        go_wp2_with fail
        go_ret2
        rw [GG.out]
        exact ⟨K5.out, j, none, 0, 0, rfl, R5.out⟩
      · have h6i : ((acc.length : Int) == 6) = false := beq_eq_false_iff_ne.2 (by omega)
        have HSZ := Lib.hid (name_sz hd)
        have GS2 : Hid (nmsG L n word 6 i = resR L n (6 - (acc.length + 1)) (acc ++ [tx L j]) (j + 1)) := Lib.hid (by rw [CH.out, show 6 - acc.length = (6 - (acc.length + 1)) + 1 from by omega, nmR_name hd])
        clear hd
        go_wp2_with fail
        refine (rd_takeName _ rb A c n j L 0 R3.out).mono ?_
        rintro e w5 ⟨k5, hret⟩
        rcases hret with ⟨_, rfl, r5⟩ | ⟨hno, _, _⟩
        case inr => rw [HD.out] at hno; cases hno
        have K5 := Lib.hid (K3.out.trans' k5)
        have R5 := Lib.hid r5
        have G5 := Lib.hid (G3.out.keep k5 (fun b hb _ => by show b ≠ rb; omega))
        have OW := Lib.hid G5.out.1.own
        clear k5 r5 G3 R3 K3
        obtain ⟨T, hT⟩ : ∃ T, tx L j = T := ⟨_, rfl⟩
        rw [hT] at HSZ GS2 ⊢
        clear hT
        go_wp2_with (at_builtin; refine wpList_appG_new w5.heap.size rfl rfl _ _ _ rfl strT OW.out _ 1 rfl rfl rfl (by simp [Value.oneCell']) (by simp only [maxLen]; omega) (by omega) ?_; intro v6 w6 own6 gr6)
        have G6 : Hid (GrwS w.heap.size w6 v6 (acc ++ [T])) := Lib.hid (G5.out.app HSZ.out own6)
        have OKB : Hid (∀ b, b < w.heap.size → (.slice A' acc.length c' : Value).ownBlock ≠ some b) := Lib.hid fun b hb e => by have := G5.out.1.lt b e; omega
        have BG : Hid (Keep (fun b => b < w.heap.size) w5 w6) := Lib.hid (gr6.keep.mono fun b _ hb => OKB.out b hb)
        have R6 : Hid (RdAt w6 rb A c n (j + 1) L 0 0) := Lib.hid (R5.out.keepS BG.out hrb (fun b o e => ⟨HA.out b o e, Nat.lt_of_lt_of_le (HA.out b o e) K5.out.size⟩))
        have K6 : Hid (KeepR rb w w6) := Lib.hid (K5.out.trans BG.out (fun b hb _ => hb))
        have hlen : (acc ++ [T]).length = acc.length + 1 := by simp
        obtain ⟨ac, hac⟩ : ∃ ac, acc ++ [T] = ac := ⟨_, rfl⟩
        rw [hac] at G6 GS2 hlen
        have HLEN := Lib.hid hlen
        clear hlen hac
        obtain ⟨A6, c6, rfl, hc3, hc4⟩ := G6.out.slice
        obtain ⟨j1, hj1⟩ : ∃ j1, j + 1 = j1 := ⟨_, rfl⟩
        rw [hj1] at R6 GS2
        have hj6 := R6.out.hi
        clear own6 gr6 G5 R5 K5 BG OKB
        go_wp2_with fail
        refine (rd_next _ rb A c n j1 L 0 0 R6.out).mono ?_
        rintro e w7 ⟨rfl, b7⟩
        have R7 := Lib.hid (R6.out.below b7)
        have G7 := Lib.hid (G6.out.below b7)
        have K7 : Hid (KeepR rb w w7) := Lib.hid (K6.out.trans' (KeepR.of_below' b7))
        clear b7 G6 R6 K6
        by_cases hcm : tx L j1 = ⟨#[44]⟩
        · have GN : Hid (nmsG L n word 6 i = nmR L n (6 - ac.length) ac (j1 + 1)) := Lib.hid (by rw [GS2.out, resR_comma hcm, HLEN.out])
          have hjl2 : j1 < L.length := there_of (by rw [hcm]; decide)
          have hq2 := txt_lity (l := [44]) hcm
          generalize tx L j1 = tq2 at hq2 ⊢
          clear hcm
          obtain ⟨_, _, q2, _, _⟩ := R7.out.cs
          have g2 := R7.out.fz 2
          have hrb2 := R7.out.lt
          have R8 := Lib.hid (R7.out.seti (j1 + 1) (by omega))
          have hat2 := Lib.hid (atOf_rd R8.out)
          have KX : Hid (KeepR rb w7 (w7.setCell ⟨rb, 2, none⟩ (.int .i64 ((j1 : Int) + 1)))) := Lib.hid (Keep.setCell (Keep.refl _ _) (p := ⟨rb, 2, none⟩) (by simp) _)
          go_wp2_with fail
          go_roundw
          case rel => exact ⟨ac, j1 + 1, by have := HLEN.out; omega, Lib.hid ⟨G7.out.keep KX.out (fun b hb _ => by show b ≠ rb; omega), R8.out, K7.out.trans' KX.out, GN.out⟩⟩
          case measure =>
            have h1 := hat.out
            have h2 := hat2.out
            have e1 : ((j1 + 1 : Nat) : Int) = (j1 : Int) + 1 := by omega
            rw [e1] at h2
            rw [h1, h2]
            omega
        · have hq2 := txt_lit (l := [44]) hcm
          have HC := Lib.hid hcm
          generalize tx L j1 = tq2 at hq2 ⊢
          clear hcm
          go_wp2_with fail
          refine (rd_take ⟨#[59]⟩ _ rb A c n j1 L 0 R7.out (by decide)).mono ?_
          rintro e w8 ⟨k8, hret⟩
          have K8 := Lib.hid (K7.out.trans' k8)
          have G8 := Lib.hid (G7.out.keep k8 (fun b hb _ => by show b ≠ rb; omega))
          clear k8
          rcases hret with ⟨ht, rfl, r8⟩ | ⟨ht, rfl, r8⟩
          · have R8 := Lib.hid r8
            have GG : Hid (nmsG L n word 6 i = .ok ac (j1 + 1)) := Lib.hid (by rw [GS2.out, resR_end ht])
            clear r8 ht
            go_wp2_with fail
            go_ret2
            rw [GG.out]
            exact ⟨K8.out, A6, c6, rfl, hc3, hc4, G8.out.row, R8.out⟩
          · have R8 := Lib.hid r8
            have GG : Hid (nmsG L n word 6 i = .bad 3 (posAt L n j1)) := Lib.hid (by rw [GS2.out, resR_bad HC.out ht])
            clear r8 ht
            go_wp2_with fail
            go_ret2
            rw [GG.out]
            exact ⟨K8.out, j1, A6, ac.length, c6, rfl, R8.out⟩


/-- what reading a procedure leaves -/
def GotPr (w w' : World) (rb : Nat) (A : Option Addr) (c n : Nat) (L : List Sg) (g : Got Pr) (e : Ending) : Prop :=
  KeepR rb w w' ∧ match g with
    | .ok p q => ∃ x : V2, e = .returned (.tuple #[.agg #[.string x.s, .slice x.A x.m x.c], .bool true]) ∧ PrO w' (Made w w') x p ∧ RdAt w' rb A c n q L 0 0
    | .bad fc fp => ∃ (x : V2) (q : Nat), e = .returned (.tuple #[.agg #[.string x.s, .slice x.A x.m x.c], .bool false]) ∧ RdAt w' rb A c n q L fc fp
theorem KeepR.setgP {w w' : World} {rb g o : Nat} (h : KeepR rb w w') (hg : w.heap.size ≤ g) (v : Value) : KeepR rb w (w'.setCell ⟨g, o, none⟩ v) :=
  ⟨h.os, h.tape, h.output, by simpa using h.size, fun b hb hS => (Below.heap_setCell w' ⟨g, o, none⟩ v b (by show b ≠ g; omega)).trans (h.block b hb hS)⟩
section
variable {w Wn : World} {rb g : Nat} {A : Option Addr} {c n q : Nat} {L : List Sg}
theorem put2_keepR (x : V2) (hg : w.heap.size ≤ g) (hk : KeepR rb w Wn) : KeepR rb w (put2 Wn g 0 x) :=
  KeepR.setgP (KeepR.setgP hk (o := 0) hg _) (o := 0 + 1) hg _
theorem put2_rd {fc : Int} {fp : Nat} (x : V2) (hr : RdAt Wn rb A c n q L fc fp) (hg : g ≠ rb) (hA : ∀ b o, A = some ⟨b, o, none⟩ → b ≠ g) : RdAt (put2 Wn g 0 x) rb A c n q L fc fp := (hr.setg hg hA 0 _).setg hg hA (0 + 1) _
theorem finPB {fc : Int} {fp : Nat} (x : V2) (hg : w.heap.size = g) (hk : KeepR rb w Wn) (hr : RdAt Wn rb A c n q L fc fp) (hA : ∀ b o, A = some ⟨b, o, none⟩ → b < w.heap.size) (hrb : rb < w.heap.size) :
    GotPr w (put2 Wn g 0 x) rb A c n L (.bad fc fp) (.returned (.tuple #[.agg #[.string x.s, .slice x.A x.m x.c], .bool false])) :=
  ⟨put2_keepR x (by omega) hk, x, q, rfl, put2_rd x hr (by omega) (fun b o e => by have := hA b o e; omega)⟩
theorem finPO {F : Nat → Prop} {p : Pr} (x : V2) (hg : w.heap.size = g) (hk : KeepR rb w Wn) (hr : RdAt Wn rb A c n q L 0 0) (hA : ∀ b o, A = some ⟨b, o, none⟩ → b < w.heap.size) (hrb : rb < w.heap.size) (hp : PrO Wn F x p) (hF : ∀ b, F b → w.heap.size < b ∧ b < Wn.heap.size) :
    GotPr w (put2 Wn g 0 x) rb A c n L (.ok p q) (.returned (.tuple #[.agg #[.string x.s, .slice x.A x.m x.c], .bool true])) := by
  refine ⟨put2_keepR x (by omega) hk, x, rfl, (hp.keep fun b hb => ?_).sub (fun b hb => ⟨by have := (hF b hb).1; omega, by rw [put2_size]; exact (hF b hb).2⟩), put2_rd x hr (by omega) (fun b o e => by have := hA b o e; omega)⟩
  have h1 := (hF b hb).1
  exact (Below.heap_setCell _ ⟨g, 0 + 1, none⟩ _ b (by show b ≠ g; omega)).trans (Below.heap_setCell _ ⟨g, 0, none⟩ _ b (by show b ≠ g; omega))
end
theorem prc2 {w : World} {g : Nat} {a b : Value} {T : TypeId} (h : w.heap[g]? = some (.cells #[a, b] T (0, 0))) : w.cell? ⟨g, 0, none⟩ = some a ∧ w.cell? ⟨g, 1, none⟩ = some b ∧ w.frozen? ⟨g, 0, none⟩ = false ∧ w.frozen? ⟨g, 1, none⟩ = false :=
  ⟨by rw [Lib.cell_of_heap h]; rfl, by rw [Lib.cell_of_heap h]; rfl, Lib.frozen_of_heap h 0, Lib.frozen_of_heap h 1⟩
set_option maxHeartbeats 6400000 in
set_option maxRecDepth 100000 in
theorem rd_proc_of (W0 w : World) (rb : Nat) (A : Option Addr) (c n i : Nat) (L : List Sg) (tab : TabW W0) (bs : Below W0.heap.size W0 w) (hr0 : W0.heap.size ≤ rb) (hA : ∀ b o, A = some ⟨b, o, none⟩ → b < w.heap.size) (h : RdAt w rb A c n i L 0 0) :
    Calls Tryd.prog 34 #[.pointer (some ⟨rb, 0, none⟩)] w fun e w' => GotPr w w' rb A c n L (procG L n i) e := by
  have RA := Lib.hid h
  have HA := Lib.hid hA
  have TB := Lib.hid tab
  have BS := Lib.hid bs
  have hrb := h.lt
  have hbs := bs.size
  have IH := Lib.hid (rd_block_of 6 (rd_stmts_all 6 (Nat.le_refl _)))
  clear h hA tab bs
  go_enter Tryd.func34, Tryd.ntmps34
  go_wp2_with fail
  have BA : Hid (Below w.heap.size w (w.alloc (.cells #[.string ByteArray.empty, .slice none 0 0] 46))) := Lib.hid (by repeat' (first | exact Below.refl _ _ | exact Nat.le_refl _ | (refine Below.alloc ?_ ?_ _) | (refine Below.setCell ?_ ?_ _) | (refine Below.drew ?_) | (refine below_drewN ?_ _) | assumption | (simp; done) | (simp; omega)))
  have V : Hid ((w.alloc (.cells #[.string ByteArray.empty, .slice none 0 0] 46)).heap[w.heap.size]? = some (.cells #[.string ByteArray.empty, .slice none 0 0] 46 (0, 0))) := Lib.hid (heap_alloc_new _ _)
  have V' : Hid ((w.alloc (.cells #[.string ByteArray.empty, .slice none 0 0] 46)).heap[w.heap.size]? = some (.cells #[.string ⟨#[]⟩, .slice none 0 0] 46 (0, 0))) := V
  clear V
  have R0 := Lib.hid (RA.out.below BA.out)
  have K0 : Hid (KeepR rb w (w.alloc (.cells #[.string ByteArray.empty, .slice none 0 0] 46))) := Lib.hid (KeepR.of_below' BA.out)
  obtain ⟨w0, hw0⟩ : ∃ w0, w.alloc (.cells #[.string ByteArray.empty, .slice none 0 0] 46) = w0 := ⟨_, rfl⟩
  have hw02 : w.alloc (.cells #[.string ⟨#[]⟩, .slice none 0 0] 46) = w0 := hw0
  (first | rw [hw0] | rw [hw02])
  rw [hw0] at V' R0 K0
  clear hw0 hw02 BA
  obtain ⟨g, hg⟩ : ∃ g, w.heap.size = g := ⟨_, rfl⟩
  have HG := Lib.hid hg
  rw [hg] at V' ⊢
  have hgr : ¬ g = rb := by omega
  have hrg : ¬ rb = g := by omega
  clear hg
  refine (rd_take ⟨#[112, 114, 111, 99]⟩ _ rb A c n i L 0 R0.out (by decide)).mono ?_
  rintro e w1 ⟨k1, hret⟩
  have K1 : Hid (KeepR rb w w1) := Lib.hid (K0.out.trans' k1)
  have V1 := Lib.hid ((k1.block g (lt_of_block V'.out) hgr).trans V'.out)
  clear k1 V'
  rcases hret with ⟨ht, rfl, r1⟩ | ⟨ht, rfl, r1⟩
  case inr =>
    have R1 := Lib.hid r1
    have GG : Hid (procG L n i = .bad 3 (posAt L n i)) := Lib.hid (procG_bad ht)
    clear r1 ht
    obtain ⟨c0, c1, f0, f1⟩ := prc2 V1.out
    have hz := lt_of_block V1.out
    go_wp2_with fail
    refine bodyPost_ret (v := .tuple #[.agg #[.string ⟨#[]⟩, .slice none 0 0], .bool false]) (by simp [results, Tryd.results34, go_sem, c0, c1]) rfl ?_
    rw [GG.out]
    exact finPB ⟨⟨#[]⟩, none, 0, 0⟩ HG.out K1.out R1.out HA.out hrb
  have R1 := Lib.hid r1
  have HT := Lib.hid ht
  clear r1 ht
  go_wp2_with fail
  refine (rd_takeName _ rb A c n (i + 1) L 0 R1.out).mono ?_
  rintro e w2 ⟨k2, hret⟩
  have K2 : Hid (KeepR rb w w2) := Lib.hid (K1.out.trans' k2)
  have V2' := Lib.hid ((k2.block g (lt_of_block V1.out) hgr).trans V1.out)
  clear k2 V1
  rcases hret with ⟨hn, rfl, r2⟩ | ⟨hn, rfl, r2⟩
  case inr =>
    have R2 := Lib.hid r2
    have GG : Hid (procG L n i = .bad 3 (posAt L n (i + 1))) := Lib.hid (procG_noname HT.out hn)
    clear r2 hn
    obtain ⟨c0, c1, f0, f1⟩ := prc2 V2'.out
    have hz := lt_of_block V2'.out
    go_wp2_with fail
    refine bodyPost_ret (v := .tuple #[.agg #[.string ⟨#[]⟩, .slice none 0 0], .bool false]) (by simp [results, Tryd.results34, go_sem, c0, c1]) rfl ?_
    rw [GG.out]
    exact finPB ⟨⟨#[]⟩, none, 0, 0⟩ HG.out K2.out R2.out HA.out hrb
  have R2 := Lib.hid r2
  have GA := Lib.hid (procG_name (n := n) HT.out hn)
  have HSZ := Lib.hid (name_sz hn)
  obtain ⟨T, hT⟩ : ∃ T, tx L (i + 1) = T := ⟨_, rfl⟩
  rw [hT] at GA HSZ ⊢
  clear r2 hn hT
  have MA : Hid (ManyAt (w2.alloc (.cells #[.int .i64 0] 3)) w2.heap.size 0) := Lib.hid (heap_alloc_new _ _)
  have B2 : Hid (Below w2.heap.size w2 (w2.alloc (.cells #[.int .i64 0] 3))) := Lib.hid (Below.alloc (Below.refl _ _) (Nat.le_refl _) _)
  have V3 := Lib.hid ((B2.out.block g (lt_of_block V2'.out)).trans V2'.out)
  have R3 := Lib.hid (R2.out.below B2.out)
  have K3 : Hid (KeepR rb w (w2.alloc (.cells #[.int .i64 0] 3))) := Lib.hid (K2.out.trans' (KeepR.of_below' B2.out))
  have hz2 := lt_of_block V2'.out
  have hs2 := K2.out.size
  clear V2'
  go_wp2_with fail
  obtain ⟨w3, hw3⟩ : ∃ w3, w2.alloc (.cells #[.int .i64 0] 3) = w3 := ⟨_, rfl⟩
  have hz3 : w3.heap.size = w2.heap.size + 1 := by rw [← hw3]; simp
  rw [hw3] at MA V3 R3 K3 ⊢
  obtain ⟨mb, hmb⟩ : ∃ mb, w2.heap.size = mb := ⟨_, rfl⟩
  rw [hmb] at MA ⊢
  have hgm : g < mb := by omega
  have EV : Hid (EnvR W0 w3 rb mb A c n (i + 1 + 1) L 0) := Lib.hid ⟨TB.out, KeepR.base K3.out BS.out hr0, hr0, by omega, fun b o e => by have := HA.out b o e; omega, by omega, R3.out, MA.out⟩
  clear hw3 B2 MA R3
  have hcl := IH.out 0 W0 w3 rb mb A c n (i + 1 + 1) L 0 60 (by decide) EV.out rfl
  refine hcl.mono ?_
  clear hcl
  intro e w4 hret
  generalize blkG L n (rdS L n 6) (i + 1 + 1) 60 = gg at *
  have hwm : w.heap.size ≤ mb := by omega
  have hgm2 : ¬ g = mb := by omega
  cases gg with
  | bad fc fp =>
    obtain ⟨k4, q, m', rfl, r4, _⟩ := hret
    have K4 : Hid (KeepR rb w w4) := Lib.hid (K3.out.trans k4 (fun b hb h => ⟨h, by omega⟩))
    have V4 := Lib.hid ((k4.block g (lt_of_block V3.out) ⟨hgr, hgm2⟩).trans V3.out)
    have R4 := Lib.hid r4
    have GG : Hid (procG L n i = .bad fc fp) := Lib.hid (by rw [GA.out]; rfl)
    clear k4 r4 V3 EV GA
    obtain ⟨c0, c1, f0, f1⟩ := prc2 V4.out
    have hz := lt_of_block V4.out
    go_wp2_with fail
    refine bodyPost_ret (v := .tuple #[.agg #[.string T, .slice none 0 0], .bool false]) (by simp [results, Tryd.results34, go_sem, c0, c1]) rfl ?_
    rw [GG.out]
    exact finPB ⟨T, none, 0, 0⟩ HG.out K4.out R4.out HA.out hrb
  | ok b q =>
    obtain ⟨l, lf⟩ := b
    obtain ⟨k4, A4, c4, m', rfl, hl1, hl2, row, r4, _, _⟩ := hret
    simp only at hl1 row
    have K4 : Hid (KeepR rb w w4) := Lib.hid (K3.out.trans k4 (fun b hb h => ⟨h, by omega⟩))
    have V4 := Lib.hid ((k4.block g (lt_of_block V3.out) ⟨hgr, hgm2⟩).trans V3.out)
    have R4 := Lib.hid r4
    have RW := Lib.hid row
    have GG : Hid (procG L n i = .ok ⟨T, l⟩ q) := Lib.hid (by rw [GA.out]; rfl)
    clear k4 r4 V3 EV GA row
    obtain ⟨c0, c1, f0, f1⟩ := prc2 V4.out
    have hz := lt_of_block V4.out
    go_wp2_with fail
    refine bodyPost_ret (v := .tuple #[.agg #[.string T, .slice A4 l.length c4], .bool true]) (by simp [results, Tryd.results34, go_sem, c0, c1]) rfl ?_
    rw [GG.out]
    exact finPO ⟨T, A4, l.length, c4⟩ HG.out K4.out R4.out HA.out hrb ⟨rfl, rfl, HSZ.out, hl1, hl2, RW.out⟩ (fun b hb => ⟨by have h1 := hb.1; have h2 := HG.out; omega, hb.2⟩)
end Go.Proofs.YtdanlgmpgdipnaaDoor
