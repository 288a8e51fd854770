/- Several texts in one: RdSt4. -/
import Derived.Test.YtdanlgmpgdipnaaDoorKd46
import Derived.Test.YtdanlgmpgdipnaaDoorKd47
namespace Go.Proofs.YtdanlgmpgdipnaaDoor
open Go.RowKit
set_option linter.unusedVariables false


theorem RdAt.keepS {S : Nat → Prop} {w w' : World} {rb : Nat} {A : Option Addr} {c n i : Nat} {L : List Sg} {fc : Int} {fp : Nat} (h : RdAt w rb A c n i L fc fp) (k : Keep S w w') (hr : S rb) (hA : ∀ b o, A = some ⟨b, o, none⟩ → S b ∧ b < w.heap.size) : RdAt w' rb A c n i L fc fp :=
  ⟨(k.block rb h.lt hr).trans h.cells, ⟨h.rd.1, fun h0 => by
    obtain ⟨b, o, e, hc⟩ := h.rd.2 h0
    exact ⟨b, o, e, fun j x hx => (World.cell?_of_block (k.block b (hA b o e).2 (hA b o e).1)).trans (hc j x hx)⟩⟩, h.off, h.hi, h.hn, h.hL, h.hc⟩
/-- a row that grows does no harm to the reader -/
theorem EnvR.grow {S : Nat → Prop} {W0 w w' : World} {rb mb : Nat} {A : Option Addr} {c n i m : Nat} {L : List Sg} (h : EnvR W0 w rb mb A c n i L m) (k : Keep S w w') (hr : S rb) (hm : S mb) (hA : ∀ b o, A = some ⟨b, o, none⟩ → S b) (h0 : ∀ b, b < W0.heap.size → S b) : EnvR W0 w' rb mb A c n i L m :=
  ⟨h.tab, h.base.trans (k.below h.base.size h0), h.hr, h.hm, fun b o e => ⟨Nat.lt_of_lt_of_le (h.hA b o e).1 k.size, (h.hA b o e).2⟩, h.ne, h.rd.keepS k hr (fun b o e => ⟨hA b o e, (h.hA b o e).1⟩), (k.block mb (lt_of_block h.many) hm).trans h.many⟩
def preG (acc : List St) (g : Got (List St × Nat)) : Got (List St × Nat) := g.bind fun b q => .ok (acc ++ b.1, b.2) q
theorem preG_nil (g : Got (List St × Nat)) : preG [] g = g := by
  unfold preG
  cases g with
  | bad c p => rfl
  | ok b q => rfl
theorem preG_bad {acc : List St} {c : Int} {p : Nat} : preG acc (.bad c p) = .bad c p := rfl
theorem preG_ok {acc b : List St} {l q : Nat} : preG acc (.ok (b, l) q) = .ok (acc ++ b, l) q := rfl
theorem chk_stop {L : List Sg} {n r j lf : Nat} (h : L.length ≤ j ∨ tx L j = ⟨#[125]⟩) : chkG L n (rdS L n r j lf) = .ok ([], lf) j := by
  have hw : wordOf L j = 0 := by
    rcases h with h | h
    · rcases Int.decEq (wordOf L j) 0 with hw | hw
      · have := wordOf_lt hw; omega
      · exact hw
    · exact brace_word h
  unfold chkG
  rw [rdS_stop hw, bind_ok, if_neg (fun hh => h.elim (fun h => by have := hh.1; omega) (fun h => hh.2 h))]
theorem chk_none {L : List Sg} {n r j lf : Nat} (h : j < L.length) (h2 : ¬ tx L j = ⟨#[125]⟩) (hw : wordOf L j = 0) : chkG L n (rdS L n r j lf) = .bad 3 (posAt L n j) := by
  unfold chkG
  rw [rdS_stop hw, bind_ok, if_pos ⟨h, h2⟩]
theorem chk_deep {L : List Sg} {n j lf : Nat} (hw : ¬ wordOf L j = 0) (hm : wordOf L j = 2 ∨ wordOf L j = 3) : chkG L n (rdS L n 0 j lf) = .bad 4 (posAt L n j) := by
  rw [rdS_eq, stepG, if_neg hw, if_pos ⟨hm, rfl⟩]; rfl
theorem chk_many {L : List Sg} {n r j : Nat} (hw : ¬ wordOf L j = 0) (hm : (wordOf L j = 2 ∨ wordOf L j = 3) → 0 < r) : chkG L n (rdS L n r j 0) = .bad 5 (posAt L n j) := by
  rw [rdS_eq, stepG, if_neg hw, if_neg (fun h => by have := hm h.1; omega), if_pos rfl]; rfl
theorem chk_step {L : List Sg} {n r j lf : Nat} (hw : ¬ wordOf L j = 0) (hm : (wordOf L j = 2 ∨ wordOf L j = 3) → 0 < r) : chkG L n (rdS L n r j (lf + 1)) = (oneG L n (rdS L n (r - 1)) (wordOf L j) j lf).bind fun g q => preG [g.1] (chkG L n (rdS L n r q g.2)) := by
  rw [rdS_eq, stepG, if_neg hw, if_neg (fun h => by have := hm h.1; omega), if_neg (by omega), Nat.add_sub_cancel]
  cases oneG L n (rdS L n (r - 1)) (wordOf L j) j lf with
  | bad c p => rfl
  | ok g q =>
    rw [bind_ok, bind_ok]
    unfold preG chkG
    cases rdS L n r q g.2 with
    | bad c p => rfl
    | ok b q2 =>
      rw [bind_ok, bind_ok, bind_ok]
      split
      · rfl
      · rfl
theorem preG_app {acc : List St} {x : St} {g : Got (List St × Nat)} : preG acc (preG [x] g) = preG (acc ++ [x]) g := by
  unfold preG
  cases g with
  | bad c p => rfl
  | ok b q => rw [bind_ok, bind_ok, bind_ok]; simp
/-- where the reader stands, of its cells -/
def atOf (w : World) (rb : Nat) : Nat := match w.cell? ⟨rb, 2, none⟩ with
  | some (.int _ z) => z.toNat
  | _ => 0
theorem atOf_rd {w : World} {rb : Nat} {A : Option Addr} {c n i : Nat} {L : List Sg} {fc : Int} {fp : Nat} (h : RdAt w rb A c n i L fc fp) : atOf w rb = i := by
  unfold atOf
  rw [h.cs.2.2.1]
  simp
theorem oneG_next {L : List Sg} {n r : Nat} {k : Int} {i left q : Nat} {b : St × Nat} (h : oneG L n (rdS L n r) k i left = .ok b q) : i < q := oneG_lt (fun j l b q _ h => rdS_le h) h
abbrev OnX (r : Nat) : Prop := ∀ (d : Int) (W0 w : World) (rb mb : Nat) (A : Option Addr) (c n i : Nat) (L : List Sg) (m left : Nat) (k : Int), d = 6 - (r : Int) → 0 ≤ d → ((k = 2 ∨ k = 3) → 0 < r) → EnvR W0 w rb mb A c n i L m → m + left = 60 → wordOf L i = k → k ≠ 0 →
  Calls Tryd.prog 67 #[.pointer (some ⟨rb, 0, none⟩), .int .i64 k, .int .i64 d, .pointer (some ⟨mb, 0, none⟩)] w fun e w' => GotS1 w w' rb mb A c n L (oneG L n (rdS L n (r - 1)) k i left) e
theorem onX_zero : OnX 0 := by
  intro d W0 w rb mb A c n i L m left k hd h0 hm ee hml hw hk0
  have hlt : i < L.length := wordOf_lt (by rw [hw]; exact hk0)
  rcases word_cases hw hk0 with rfl | rfl | rfl | rfl | rfl | rfl | rfl | rfl
  · exact rd_stmt_set _ d W0 w rb mb A c n i L m left ee hml (word_one hw)
  · exact absurd (hm (.inl rfl)) (by omega)
  · exact absurd (hm (.inr rfl)) (by omega)
  · exact rd_stmt_word _ d W0 w rb mb A c n i L m left ee hml 4 (by omega) hlt
  · exact rd_stmt_word _ d W0 w rb mb A c n i L m left ee hml 5 (by omega) hlt
  · exact rd_stmt_word _ d W0 w rb mb A c n i L m left ee hml 6 (by omega) hlt
  · exact rd_stmt_word _ d W0 w rb mb A c n i L m left ee hml 7 (by omega) hlt
  · exact rd_stmt_skip _ d W0 w rb mb A c n i L m left ee hml hlt
theorem onX_succ (r : Nat) (ih : NeC r) : OnX (r + 1) := by
  intro d W0 w rb mb A c n i L m left k hd h0 hm ee hml hw hk0
  exact rd_stmt_of r ih d W0 w rb mb A c n i L m left k (fun _ => by omega) (by omega) ee hml hw hk0
set_option maxHeartbeats 6400000 in
set_option maxRecDepth 100000 in
theorem rd_stmts_of (r : Nat) (h6 : r ≤ 6) (ih : OnX r) : SsC r := by
  intro d W0 w rb mb A c n i L m left hd ee hml
  have IH := Lib.hid ih
  have HD := Lib.hid hd
  have EE := Lib.hid ee
  have hrb := ee.lts.1
  have hmb := ee.lts.2
  have hL6 := ee.rd.hL
  have hmne := ee.ne
  have hfd := sg_field
  clear ih hd ee
  go_enter Tryd.func62, Tryd.ntmps62
  go_wp2_with fail
  go_loopw [8] (fun v wr => ∃ (acc : List St) (j lf mm : Nat), Hid (GrwO w.heap.size wr v acc ∧ EnvR W0 wr rb mb A c n j L mm ∧ KeepM rb mb w wr ∧ acc.length ≤ j ∧ chkG L n (rdS L n r i left) = preG acc (chkG L n (rdS L n r j lf))) ∧ mm + lf = 60) (fun _ wr => L.length + 1 - atOf wr rb)
  case atStart => exact ⟨[], i, left, m, Lib.hid ⟨GrwO.nil (Nat.le_refl _), EE.out, Keep.refl _ _, Nat.zero_le _, (preG_nil _).symm⟩, hml⟩
  case round =>
    obtain ⟨acc, j, lf, mm, HR, hmm⟩ := hrel
    obtain ⟨hgr, hen, hkp, haj, hch⟩ := HR.out
    obtain ⟨A', c', rfl, hc1, hc2⟩ := hgr.slice
    have GR := Lib.hid hgr
    have EN := Lib.hid hen
    have KP := Lib.hid hkp
    have CH := Lib.hid hch
    have HAJ := Lib.hid haj
    have hsz := hkp.size
    have hat := Lib.hid (atOf_rd hen.rd)
    clear hgr hen hkp hch HR
    rename World => wr
    go_wp2_with fail
    refine (rd_atEnd _ rb A c n j L 0 0 EN.out.rd).mono ?_
    rintro e w1 ⟨rfl, b1⟩
    have E1 := Lib.hid (EN.out.below b1)
    have G1 := Lib.hid (GR.out.below b1)
    have K1 : Hid (KeepM rb mb w w1) := Lib.hid (KP.out.trans' (KeepM.of_below b1))
    have S1 : Hid (wr.heap.size ≤ w1.heap.size) := Lib.hid b1.size
    clear b1 GR KP
    by_cases hd : L.length ≤ j
    · rw [decide_eq_true hd]
      have RE : Hid (chkG L n (rdS L n r i left) = .ok (acc, lf) j) := Lib.hid (by rw [CH.out, chk_stop (.inl hd), preG_ok, List.append_nil])
      go_wp2_with fail
      go_ret2
      rw [RE.out]
      exact ⟨K1.out, A', c', mm, rfl, hc1, hc2, G1.out.row, E1.out.rd, hmm, E1.out.many⟩
    · rw [decide_eq_false hd]
      have hjl : j < L.length := by omega
      have hj6 : j ≤ 6000 := E1.out.rd.hi
      go_wp2_with fail
      refine (rd_next _ rb A c n j L 0 0 E1.out.rd).mono ?_
      rintro e w2 ⟨rfl, b2⟩
      have E2 := Lib.hid (E1.out.below b2)
      have G2 := Lib.hid (G1.out.below b2)
      have K2 : Hid (KeepM rb mb w w2) := Lib.hid (K1.out.trans' (KeepM.of_below b2))
      have S2 : Hid (wr.heap.size ≤ w2.heap.size) := Lib.hid (Nat.le_trans S1.out b2.size)
      clear b2 G1 K1 E1 S1
      by_cases hb : tx L j = ⟨#[125]⟩
      · have hq := txt_lity (l := [125]) hb
        have RE : Hid (chkG L n (rdS L n r i left) = .ok (acc, lf) j) := Lib.hid (by rw [CH.out, chk_stop (.inr hb), preG_ok, List.append_nil])
        generalize tx L j = tq at hq ⊢
        clear hb
        go_wp2_with fail
        go_ret2
        rw [RE.out]
        exact ⟨K2.out, A', c', mm, rfl, hc1, hc2, G2.out.row, E2.out.rd, hmm, E2.out.many⟩
      · have hq := txt_lit (l := [125]) hb
        have HB := Lib.hid hb
        obtain ⟨T, hT⟩ : ∃ T, tx L j = T := ⟨_, rfl⟩
        have HT := Lib.hid hT
        rw [hT] at hq ⊢
        clear hb hT
        go_wp2_with fail
        refine (rd_next _ rb A c n j L 0 0 E2.out.rd).mono ?_
        rintro e w3 ⟨rfl, b3⟩
        rw [HT.out]
        have E3 := Lib.hid (E2.out.below b3)
        have G3 := Lib.hid (G2.out.below b3)
        have K3 : Hid (KeepM rb mb w w3) := Lib.hid (K2.out.trans' (KeepM.of_below b3))
        have S3 : Hid (wr.heap.size ≤ w3.heap.size) := Lib.hid (Nat.le_trans S2.out b3.size)
        clear b3 G2 K2 E2 S2
        go_wp2_with fail
        refine (impl_wordKind T _).mono ?_
        rintro e w4 ⟨rfl, rfl⟩
        have hkw : Hid (wordOf L j = wordK T) := Lib.hid (by rw [wordOf_k, HT.out])
        obtain ⟨k, hk⟩ : ∃ k, wordK T = k := ⟨_, rfl⟩
        rw [hk] at hkw ⊢
        clear hk
        by_cases k0 : k = 0
        · subst k0
          have RE : Hid (chkG L n (rdS L n r i left) = .bad 3 (posAt L n j)) := Lib.hid (by rw [CH.out, chk_none hjl HB.out hkw.out, preG_bad])
          go_wp2_with fail
          refine (rd_fail 3 _ rb A c n j L 0 E3.out.rd).mono ?_
          rintro e w5 ⟨rfl, r5, k5⟩
          have R5 := Lib.hid r5
          have M5 := Lib.hid (E3.out.many.keepR k5 E3.out.ne)
          have K5 : Hid (KeepM rb mb w w5) := Lib.hid (K3.out.trans' (KeepM.of_r k5))
          clear r5 k5
          go_wp2_with fail
          go_ret2
          rw [RE.out]
          exact ⟨K5.out, j, mm, rfl, R5.out, M5.out⟩
        have e0 : (k == 0) = false := beq_eq_false_iff_ne.2 k0
        have HW0 : Hid (¬ wordOf L j = 0) := Lib.hid (by rw [hkw.out]; exact k0)
        have hcase : (k ≠ 2 ∧ k ≠ 3 ∧ (k == 2) = false ∧ (k == 3) = false) ∨ (k = 2 ∧ 0 < r ∧ (d == 6) = false) ∨ (k = 3 ∧ 0 < r ∧ (d == 6) = false) ∨ (k = 2 ∧ r = 0 ∧ (d == 6) = true) ∨ (k = 3 ∧ r = 0 ∧ (d == 6) = true) := by
          have hd := HD.out
          have hdb : (0 < r ∧ (d == 6) = false) ∨ (r = 0 ∧ (d == 6) = true) := by
            rcases Nat.eq_zero_or_pos r with h | h
            · exact .inr ⟨h, by rw [beq_iff_eq]; omega⟩
            · exact .inl ⟨h, beq_eq_false_iff_ne.2 (by omega)⟩
          by_cases h2 : k = 2
          · rcases hdb with h | h
            · exact .inr (.inl ⟨h2, h⟩)
            · exact .inr (.inr (.inr (.inl ⟨h2, h⟩)))
          by_cases h3 : k = 3
          · rcases hdb with h | h
            · exact .inr (.inr (.inl ⟨h3, h⟩))
            · exact .inr (.inr (.inr (.inr ⟨h3, h⟩)))
          exact .inl ⟨h2, h3, beq_eq_false_iff_ne.2 h2, beq_eq_false_iff_ne.2 h3⟩
        have hlb : (lf = 0 ∧ ((mm : Int) == 60) = true) ∨ ∃ lg, lf = lg + 1 ∧ ((mm : Int) == 60) = false := by
          cases lf with
          | zero => exact .inl ⟨rfl, by rw [beq_iff_eq]; omega⟩
          | succ lg => exact .inr ⟨lg, rfl, beq_eq_false_iff_ne.2 (by omega)⟩
        have h0d : Hid (0 ≤ d) := Lib.hid (by have := HD.out; omega)
        rcases hcase with ⟨h2, h3, e2, e3⟩ | ⟨rfl, hr0, ed⟩ | ⟨rfl, hr0, ed⟩ | ⟨rfl, hr0, ed⟩ | ⟨rfl, hr0, ed⟩
        · have HM : Hid ((k = 2 ∨ k = 3) → 0 < r) := Lib.hid (fun h => by omega)
          obtain ⟨n1, n2, n3, n4⟩ : mb ≠ rb ∧ ¬ mb = rb ∧ rb < w3.heap.size ∧ mb < w3.heap.size := ⟨hmne, hmne, E3.out.lts.1, E3.out.lts.2⟩
          obtain ⟨m0, mf⟩ : w3.cell? ⟨mb, 0, none⟩ = some (.int .i64 (mm : Int)) ∧ w3.frozen? ⟨mb, 0, none⟩ = false := by
            have hh := E3.out.many
            unfold ManyAt at hh
            exact ⟨by rw [Lib.cell_of_heap hh]; rfl, Lib.frozen_of_heap hh 0⟩
          rcases hlb with ⟨rfl, hmb⟩ | ⟨lg, rfl, hmb⟩
          · have RE : Hid (chkG L n (rdS L n r i left) = .bad 5 (posAt L n j)) := Lib.hid (by rw [CH.out, chk_many HW0.out (by rw [hkw.out]; exact HM.out), preG_bad])
            go_wp2_with fail
            refine (rd_fail 5 _ rb A c n j L 0 E3.out.rd).mono ?_
            rintro e w5 ⟨rfl, r5, k5⟩
            have R5 := Lib.hid r5
            have M5 := Lib.hid (E3.out.many.keepR k5 E3.out.ne)
            have K5 : Hid (KeepM rb mb w w5) := Lib.hid (K3.out.trans' (KeepM.of_r k5))
            clear r5 k5
            go_wp2_with fail
            go_ret2
            rw [RE.out]
            exact ⟨K5.out, j, mm, rfl, R5.out, M5.out⟩
          have RE : Hid (chkG L n (rdS L n r i left) = preG acc ((oneG L n (rdS L n (r - 1)) k j lg).bind fun g q => preG [g.1] (chkG L n (rdS L n r q g.2)))) := Lib.hid (by rw [CH.out, chk_step HW0.out (by rw [hkw.out]; exact HM.out), hkw.out])
          have KX : Hid (KeepM rb mb w3 (w3.setCell ⟨mb, 0, none⟩ (.int .i64 ((mm : Int) + 1)))) := Lib.hid (Keep.setCell (Keep.refl _ _) (p := ⟨mb, 0, none⟩) (by simp) _)
          have E4 : Hid (EnvR W0 (w3.setCell ⟨mb, 0, none⟩ (.int .i64 ((mm : Int) + 1))) rb mb A c n j L (mm + 1)) := Lib.hid ⟨E3.out.tab, E3.out.base.setCell (p := ⟨mb, 0, none⟩) E3.out.hm _, E3.out.hr, E3.out.hm, fun b o e => ⟨by simpa using (E3.out.hA b o e).1, (E3.out.hA b o e).2⟩, E3.out.ne, E3.out.rd.setg hmne (fun b o e => (E3.out.hA b o e).2) 0 _, E3.out.many.inc⟩
          have K4 : Hid (KeepM rb mb w (w3.setCell ⟨mb, 0, none⟩ (.int .i64 ((mm : Int) + 1)))) := Lib.hid (K3.out.trans' KX.out)
          have G4 : Hid (GrwO w.heap.size (w3.setCell ⟨mb, 0, none⟩ (.int .i64 ((mm : Int) + 1))) (.slice A' acc.length c') acc) := Lib.hid (G3.out.keep KX.out (fun b hb _ => ⟨by omega, by omega⟩))
          have S4 : Hid (wr.heap.size ≤ (w3.setCell ⟨mb, 0, none⟩ (.int .i64 ((mm : Int) + 1))).heap.size) := Lib.hid (by have := S3.out; simpa using this)
          go_wp2_with fail
          obtain ⟨w4, hw4⟩ : ∃ w4, (w3.setCell ⟨mb, 0, none⟩ (.int .i64 ((mm : Int) + 1))) = w4 := ⟨_, rfl⟩
          rw [hw4] at E4 K4 G4 S4 ⊢
          clear hw4 KX m0 mf hmb
          refine (IH.out d W0 w4 rb mb A c n j L (mm + 1) lg k HD.out h0d.out (fun hq => by first | exact HM.out hq | exact hr0) E4.out (by omega) hkw.out (by first | exact k0 | decide)).mono ?_
          intro e w5 hret
          have HN : Hid (∀ b q, oneG L n (rdS L n (r - 1)) k j lg = .ok b q → j < q) := Lib.hid (fun b q h => oneG_next h)
          generalize oneG L n (rdS L n (r - 1)) k j lg = g at *
          cases g with
          | bad fc fp =>
            obtain ⟨k5, x, q, m', rfl, r5, mm5⟩ := hret
            have K5 : Hid (KeepM rb mb w w5) := Lib.hid (K4.out.trans' k5)
            have R5 := Lib.hid (And.intro r5 mm5)
            clear k5 r5 mm5
            go_wp2_with fail
            go_ret2
            rw [RE.out]
            exact ⟨K5.out.trans' (KeepM.of_below (by repeat' (first | exact Below.refl _ _ | exact Nat.le_refl _ | (refine Below.alloc ?_ ?_ _) | (refine Below.setCell ?_ ?_ _) | (refine Below.drew ?_) | (refine below_drewN ?_ _) | assumption | (simp; done) | (simp; omega)))), q, m', rfl, R5.out.1.below (by repeat' (first | exact Below.refl _ _ | exact Nat.le_refl _ | (refine Below.alloc ?_ ?_ _) | (refine Below.setCell ?_ ?_ _) | (refine Below.drew ?_) | (refine below_drewN ?_ _) | assumption | (simp; done) | (simp; omega))), R5.out.2.below (by repeat' (first | exact Below.refl _ _ | exact Nat.le_refl _ | (refine Below.alloc ?_ ?_ _) | (refine Below.setCell ?_ ?_ _) | (refine Below.drew ?_) | (refine below_drewN ?_ _) | assumption | (simp; done) | (simp; omega)))⟩
          | ok b q =>
            obtain ⟨g, lf'⟩ := b
            obtain ⟨k5, x, m', rfl, so, r5, hm', mm5⟩ := hret
            have hjq := HN.out _ _ rfl
            simp only at so hm'
            have BX : Hid (Below w5.heap.size w5 (w5.alloc (.cells #[.int .i64 x.k, .string x.s, .int .i64 x.tk, .int .i64 x.tn, .string x.ts, .slice x.tA x.tm x.tc, .slice x.bA x.bm x.bc, .slice x.eA x.em x.ec] 67))) := Lib.hid (Below.alloc (Below.refl _ _) (Nat.le_refl _) _)
            have K45 : Hid (KeepM rb mb w4 (w5.alloc (.cells #[.int .i64 x.k, .string x.s, .int .i64 x.tk, .int .i64 x.tn, .string x.ts, .slice x.tA x.tm x.tc, .slice x.bA x.bm x.bc, .slice x.eA x.em x.ec] 67))) := Lib.hid (KeepM.trans' k5 (KeepM.of_below BX.out))
            have K6 : Hid (KeepM rb mb w (w5.alloc (.cells #[.int .i64 x.k, .string x.s, .int .i64 x.tk, .int .i64 x.tn, .string x.ts, .slice x.tA x.tm x.tc, .slice x.bA x.bm x.bc, .slice x.eA x.em x.ec] 67))) := Lib.hid (K4.out.trans' K45.out)
            have E6 : Hid (EnvR W0 (w5.alloc (.cells #[.int .i64 x.k, .string x.s, .int .i64 x.tk, .int .i64 x.tn, .string x.ts, .slice x.tA x.tm x.tc, .slice x.bA x.bm x.bc, .slice x.eA x.em x.ec] 67)) rb mb A c n q L m') := Lib.hid ((E4.out.step k5 r5 mm5).below BX.out)
            have SO : Hid (StO (w5.alloc (.cells #[.int .i64 x.k, .string x.s, .int .i64 x.tk, .int .i64 x.tn, .string x.ts, .slice x.tA x.tm x.tc, .slice x.bA x.bm x.bc, .slice x.eA x.em x.ec] 67)) (Made w4 (w5.alloc (.cells #[.int .i64 x.k, .string x.s, .int .i64 x.tk, .int .i64 x.tn, .string x.ts, .slice x.tA x.tm x.tc, .slice x.bA x.bm x.bc, .slice x.eA x.em x.ec] 67))) x g) := Lib.hid ((so.keep fun b hb => BX.out.block b hb.2).sub (fun b hb => ⟨hb.1, by have := hb.2; simp; omega⟩))
            have V6 : Hid ((w5.alloc (.cells #[.int .i64 x.k, .string x.s, .int .i64 x.tk, .int .i64 x.tn, .string x.ts, .slice x.tA x.tm x.tc, .slice x.bA x.bm x.bc, .slice x.eA x.em x.ec] 67)).heap[w5.heap.size]? = some (.cells #[.int .i64 x.k, .string x.s, .int .i64 x.tk, .int .i64 x.tn, .string x.ts, .slice x.tA x.tm x.tc, .slice x.bA x.bm x.bc, .slice x.eA x.em x.ec] 67 (0, 0))) := Lib.hid (heap_alloc_new _ _)
            have S6 : Hid (wr.heap.size ≤ (w5.alloc (.cells #[.int .i64 x.k, .string x.s, .int .i64 x.tk, .int .i64 x.tn, .string x.ts, .slice x.tA x.tm x.tc, .slice x.bA x.bm x.bc, .slice x.eA x.em x.ec] 67)).heap.size) := Lib.hid (by have := k5.size; have := S4.out; simp; omega)
            have RF : Hid (chkG L n (rdS L n r i left) = preG (acc ++ [g]) (chkG L n (rdS L n r q lf'))) := Lib.hid (by rw [RE.out, bind_ok, preG_app])
            clear k5 r5 mm5 so RE
            obtain ⟨xs, G, hxl, ow, hG, hgd, hx⟩ := G4.out
            have OW := Lib.hid (ow.keep K45.out (fun b hb => by have := (ow.lt b hb).1; exact ⟨by omega, by omega⟩)).own
            have OX := Lib.hid ow
            have HX := Lib.hid (And.intro hxl (And.intro hG (And.intro hgd hx)))
            have hacc : acc.length ≤ 6000 := by have := HAJ.out; omega
            clear ow hxl hG hgd hx
            go_upto_region 14 with fail
            obtain ⟨w6, hw6⟩ : ∃ w6, (w5.alloc (.cells #[.int .i64 x.k, .string x.s, .int .i64 x.tk, .int .i64 x.tn, .string x.ts, .slice x.tA x.tm x.tc, .slice x.bA x.bm x.bc, .slice x.eA x.em x.ec] 67)) = w6 := ⟨_, rfl⟩
            have hz5 : w5.heap.size < w6.heap.size := by rw [← hw6]; simp
            rw [hw6] at K45 K6 E6 SO V6 S6 OW ⊢
            clear hw6 BX
            obtain ⟨g5, hg5⟩ : ∃ g, w5.heap.size = g := ⟨_, rfl⟩
            rw [hg5] at V6 hz5 ⊢
            clear hg5
            obtain ⟨⟨c0, c1, c2, c3, c4, c5, c6, c7⟩, f0, f1, f2, f3, f4, f5, f6, f7⟩ := cells8R V6.out
            go_wp2_with (at_builtin; refine wpList_appG_new w6.heap.size rfl rfl _ _ _ rfl sgT OW.out _ 1 rfl rfl rfl (by simp [Value.oneCell']) (by simp only [maxLen]; omega) (by omega) ?_; intro v7 w7 own7 gr7)
            have GN : Hid (GrwO w.heap.size w7 v7 (acc ++ [g])) := Lib.hid (grw_app (S := fun b => b ≠ rb ∧ b ≠ mb) HX.out.1 OX.out HX.out.2.1 HX.out.2.2.1 HX.out.2.2.2 K45.out (fun b hb _ => ⟨by omega, by omega⟩) SO.out own7 gr7)
            have OKB : Hid (∀ b, b < w.heap.size → (.slice A' acc.length c' : Value).ownBlock ≠ some b) := Lib.hid fun b hb e => by have := OX.out.lt b e; omega
            have BG : Hid (Keep (fun b => b < w.heap.size) w6 w7) := Lib.hid (gr7.keep.mono fun b _ hb => OKB.out b hb)
            have E7 : Hid (EnvR W0 w7 rb mb A c n q L m') := Lib.hid (E6.out.grow BG.out hrb hmb (fun b o e => EE.out.as b o e) (fun b hb => by have := EE.out.base.size; omega))
            have K7 : Hid (KeepM rb mb w w7) := Lib.hid (K6.out.trans BG.out (fun b hb _ => hb))
            have hat2 := Lib.hid (atOf_rd E7.out.rd)
            clear own7 gr7 c0 c1 c2 c3 c4 c5 c6 c7 f0 f1 f2 f3 f4 f5 f6 f7
            go_wp2_with fail
            go_roundw
            case rel => exact ⟨acc ++ [g], q, lf', m', Lib.hid ⟨GN.out, E7.out, K7.out, by have := HAJ.out; simp; omega, RF.out⟩, hm'⟩
            case measure =>
              have h1 := hat.out
              have h2 := hat2.out
              rw [h1, h2]
              omega
        · have HM : Hid ((((2 : Int) = 2 ∨ (2 : Int) = 3)) → 0 < r) := Lib.hid (fun _ => hr0)
          obtain ⟨n1, n2, n3, n4⟩ : mb ≠ rb ∧ ¬ mb = rb ∧ rb < w3.heap.size ∧ mb < w3.heap.size := ⟨hmne, hmne, E3.out.lts.1, E3.out.lts.2⟩
          obtain ⟨m0, mf⟩ : w3.cell? ⟨mb, 0, none⟩ = some (.int .i64 (mm : Int)) ∧ w3.frozen? ⟨mb, 0, none⟩ = false := by
            have hh := E3.out.many
            unfold ManyAt at hh
            exact ⟨by rw [Lib.cell_of_heap hh]; rfl, Lib.frozen_of_heap hh 0⟩
          rcases hlb with ⟨rfl, hmb⟩ | ⟨lg, rfl, hmb⟩
          · have RE : Hid (chkG L n (rdS L n r i left) = .bad 5 (posAt L n j)) := Lib.hid (by rw [CH.out, chk_many HW0.out (by rw [hkw.out]; exact HM.out), preG_bad])
            go_wp2_with fail
            refine (rd_fail 5 _ rb A c n j L 0 E3.out.rd).mono ?_
            rintro e w5 ⟨rfl, r5, k5⟩
            have R5 := Lib.hid r5
            have M5 := Lib.hid (E3.out.many.keepR k5 E3.out.ne)
            have K5 : Hid (KeepM rb mb w w5) := Lib.hid (K3.out.trans' (KeepM.of_r k5))
            clear r5 k5
            go_wp2_with fail
            go_ret2
            rw [RE.out]
            exact ⟨K5.out, j, mm, rfl, R5.out, M5.out⟩
          have RE : Hid (chkG L n (rdS L n r i left) = preG acc ((oneG L n (rdS L n (r - 1)) 2 j lg).bind fun g q => preG [g.1] (chkG L n (rdS L n r q g.2)))) := Lib.hid (by rw [CH.out, chk_step HW0.out (by rw [hkw.out]; exact HM.out), hkw.out])
          have KX : Hid (KeepM rb mb w3 (w3.setCell ⟨mb, 0, none⟩ (.int .i64 ((mm : Int) + 1)))) := Lib.hid (Keep.setCell (Keep.refl _ _) (p := ⟨mb, 0, none⟩) (by simp) _)
          have E4 : Hid (EnvR W0 (w3.setCell ⟨mb, 0, none⟩ (.int .i64 ((mm : Int) + 1))) rb mb A c n j L (mm + 1)) := Lib.hid ⟨E3.out.tab, E3.out.base.setCell (p := ⟨mb, 0, none⟩) E3.out.hm _, E3.out.hr, E3.out.hm, fun b o e => ⟨by simpa using (E3.out.hA b o e).1, (E3.out.hA b o e).2⟩, E3.out.ne, E3.out.rd.setg hmne (fun b o e => (E3.out.hA b o e).2) 0 _, E3.out.many.inc⟩
          have K4 : Hid (KeepM rb mb w (w3.setCell ⟨mb, 0, none⟩ (.int .i64 ((mm : Int) + 1)))) := Lib.hid (K3.out.trans' KX.out)
          have G4 : Hid (GrwO w.heap.size (w3.setCell ⟨mb, 0, none⟩ (.int .i64 ((mm : Int) + 1))) (.slice A' acc.length c') acc) := Lib.hid (G3.out.keep KX.out (fun b hb _ => ⟨by omega, by omega⟩))
          have S4 : Hid (wr.heap.size ≤ (w3.setCell ⟨mb, 0, none⟩ (.int .i64 ((mm : Int) + 1))).heap.size) := Lib.hid (by have := S3.out; simpa using this)
          go_wp2_with fail
          obtain ⟨w4, hw4⟩ : ∃ w4, (w3.setCell ⟨mb, 0, none⟩ (.int .i64 ((mm : Int) + 1))) = w4 := ⟨_, rfl⟩
          rw [hw4] at E4 K4 G4 S4 ⊢
          clear hw4 KX m0 mf hmb
          refine (IH.out d W0 w4 rb mb A c n j L (mm + 1) lg 2 HD.out h0d.out (fun hq => by first | exact HM.out hq | exact hr0) E4.out (by omega) hkw.out (by first | exact k0 | decide)).mono ?_
          intro e w5 hret
          have HN : Hid (∀ b q, oneG L n (rdS L n (r - 1)) 2 j lg = .ok b q → j < q) := Lib.hid (fun b q h => oneG_next h)
          generalize oneG L n (rdS L n (r - 1)) 2 j lg = g at *
          cases g with
          | bad fc fp =>
            obtain ⟨k5, x, q, m', rfl, r5, mm5⟩ := hret
            have K5 : Hid (KeepM rb mb w w5) := Lib.hid (K4.out.trans' k5)
            have R5 := Lib.hid (And.intro r5 mm5)
            clear k5 r5 mm5
            go_wp2_with fail
            go_ret2
            rw [RE.out]
            exact ⟨K5.out.trans' (KeepM.of_below (by repeat' (first | exact Below.refl _ _ | exact Nat.le_refl _ | (refine Below.alloc ?_ ?_ _) | (refine Below.setCell ?_ ?_ _) | (refine Below.drew ?_) | (refine below_drewN ?_ _) | assumption | (simp; done) | (simp; omega)))), q, m', rfl, R5.out.1.below (by repeat' (first | exact Below.refl _ _ | exact Nat.le_refl _ | (refine Below.alloc ?_ ?_ _) | (refine Below.setCell ?_ ?_ _) | (refine Below.drew ?_) | (refine below_drewN ?_ _) | assumption | (simp; done) | (simp; omega))), R5.out.2.below (by repeat' (first | exact Below.refl _ _ | exact Nat.le_refl _ | (refine Below.alloc ?_ ?_ _) | (refine Below.setCell ?_ ?_ _) | (refine Below.drew ?_) | (refine below_drewN ?_ _) | assumption | (simp; done) | (simp; omega)))⟩
          | ok b q =>
            obtain ⟨g, lf'⟩ := b
            obtain ⟨k5, x, m', rfl, so, r5, hm', mm5⟩ := hret
            have hjq := HN.out _ _ rfl
            simp only at so hm'
            have BX : Hid (Below w5.heap.size w5 (w5.alloc (.cells #[.int .i64 x.k, .string x.s, .int .i64 x.tk, .int .i64 x.tn, .string x.ts, .slice x.tA x.tm x.tc, .slice x.bA x.bm x.bc, .slice x.eA x.em x.ec] 67))) := Lib.hid (Below.alloc (Below.refl _ _) (Nat.le_refl _) _)
            have K45 : Hid (KeepM rb mb w4 (w5.alloc (.cells #[.int .i64 x.k, .string x.s, .int .i64 x.tk, .int .i64 x.tn, .string x.ts, .slice x.tA x.tm x.tc, .slice x.bA x.bm x.bc, .slice x.eA x.em x.ec] 67))) := Lib.hid (KeepM.trans' k5 (KeepM.of_below BX.out))
            have K6 : Hid (KeepM rb mb w (w5.alloc (.cells #[.int .i64 x.k, .string x.s, .int .i64 x.tk, .int .i64 x.tn, .string x.ts, .slice x.tA x.tm x.tc, .slice x.bA x.bm x.bc, .slice x.eA x.em x.ec] 67))) := Lib.hid (K4.out.trans' K45.out)
            have E6 : Hid (EnvR W0 (w5.alloc (.cells #[.int .i64 x.k, .string x.s, .int .i64 x.tk, .int .i64 x.tn, .string x.ts, .slice x.tA x.tm x.tc, .slice x.bA x.bm x.bc, .slice x.eA x.em x.ec] 67)) rb mb A c n q L m') := Lib.hid ((E4.out.step k5 r5 mm5).below BX.out)
            have SO : Hid (StO (w5.alloc (.cells #[.int .i64 x.k, .string x.s, .int .i64 x.tk, .int .i64 x.tn, .string x.ts, .slice x.tA x.tm x.tc, .slice x.bA x.bm x.bc, .slice x.eA x.em x.ec] 67)) (Made w4 (w5.alloc (.cells #[.int .i64 x.k, .string x.s, .int .i64 x.tk, .int .i64 x.tn, .string x.ts, .slice x.tA x.tm x.tc, .slice x.bA x.bm x.bc, .slice x.eA x.em x.ec] 67))) x g) := Lib.hid ((so.keep fun b hb => BX.out.block b hb.2).sub (fun b hb => ⟨hb.1, by have := hb.2; simp; omega⟩))
            have V6 : Hid ((w5.alloc (.cells #[.int .i64 x.k, .string x.s, .int .i64 x.tk, .int .i64 x.tn, .string x.ts, .slice x.tA x.tm x.tc, .slice x.bA x.bm x.bc, .slice x.eA x.em x.ec] 67)).heap[w5.heap.size]? = some (.cells #[.int .i64 x.k, .string x.s, .int .i64 x.tk, .int .i64 x.tn, .string x.ts, .slice x.tA x.tm x.tc, .slice x.bA x.bm x.bc, .slice x.eA x.em x.ec] 67 (0, 0))) := Lib.hid (heap_alloc_new _ _)
            have S6 : Hid (wr.heap.size ≤ (w5.alloc (.cells #[.int .i64 x.k, .string x.s, .int .i64 x.tk, .int .i64 x.tn, .string x.ts, .slice x.tA x.tm x.tc, .slice x.bA x.bm x.bc, .slice x.eA x.em x.ec] 67)).heap.size) := Lib.hid (by have := k5.size; have := S4.out; simp; omega)
            have RF : Hid (chkG L n (rdS L n r i left) = preG (acc ++ [g]) (chkG L n (rdS L n r q lf'))) := Lib.hid (by rw [RE.out, bind_ok, preG_app])
            clear k5 r5 mm5 so RE
            obtain ⟨xs, G, hxl, ow, hG, hgd, hx⟩ := G4.out
            have OW := Lib.hid (ow.keep K45.out (fun b hb => by have := (ow.lt b hb).1; exact ⟨by omega, by omega⟩)).own
            have OX := Lib.hid ow
            have HX := Lib.hid (And.intro hxl (And.intro hG (And.intro hgd hx)))
            have hacc : acc.length ≤ 6000 := by have := HAJ.out; omega
            clear ow hxl hG hgd hx
            go_upto_region 14 with fail
            obtain ⟨w6, hw6⟩ : ∃ w6, (w5.alloc (.cells #[.int .i64 x.k, .string x.s, .int .i64 x.tk, .int .i64 x.tn, .string x.ts, .slice x.tA x.tm x.tc, .slice x.bA x.bm x.bc, .slice x.eA x.em x.ec] 67)) = w6 := ⟨_, rfl⟩
            have hz5 : w5.heap.size < w6.heap.size := by rw [← hw6]; simp
            rw [hw6] at K45 K6 E6 SO V6 S6 OW ⊢
            clear hw6 BX
            obtain ⟨g5, hg5⟩ : ∃ g, w5.heap.size = g := ⟨_, rfl⟩
            rw [hg5] at V6 hz5 ⊢
            clear hg5
            obtain ⟨⟨c0, c1, c2, c3, c4, c5, c6, c7⟩, f0, f1, f2, f3, f4, f5, f6, f7⟩ := cells8R V6.out
            go_wp2_with (at_builtin; refine wpList_appG_new w6.heap.size rfl rfl _ _ _ rfl sgT OW.out _ 1 rfl rfl rfl (by simp [Value.oneCell']) (by simp only [maxLen]; omega) (by omega) ?_; intro v7 w7 own7 gr7)
            have GN : Hid (GrwO w.heap.size w7 v7 (acc ++ [g])) := Lib.hid (grw_app (S := fun b => b ≠ rb ∧ b ≠ mb) HX.out.1 OX.out HX.out.2.1 HX.out.2.2.1 HX.out.2.2.2 K45.out (fun b hb _ => ⟨by omega, by omega⟩) SO.out own7 gr7)
            have OKB : Hid (∀ b, b < w.heap.size → (.slice A' acc.length c' : Value).ownBlock ≠ some b) := Lib.hid fun b hb e => by have := OX.out.lt b e; omega
            have BG : Hid (Keep (fun b => b < w.heap.size) w6 w7) := Lib.hid (gr7.keep.mono fun b _ hb => OKB.out b hb)
            have E7 : Hid (EnvR W0 w7 rb mb A c n q L m') := Lib.hid (E6.out.grow BG.out hrb hmb (fun b o e => EE.out.as b o e) (fun b hb => by have := EE.out.base.size; omega))
            have K7 : Hid (KeepM rb mb w w7) := Lib.hid (K6.out.trans BG.out (fun b hb _ => hb))
            have hat2 := Lib.hid (atOf_rd E7.out.rd)
            clear own7 gr7 c0 c1 c2 c3 c4 c5 c6 c7 f0 f1 f2 f3 f4 f5 f6 f7
            go_wp2_with fail
            go_roundw
            case rel => exact ⟨acc ++ [g], q, lf', m', Lib.hid ⟨GN.out, E7.out, K7.out, by have := HAJ.out; simp; omega, RF.out⟩, hm'⟩
            case measure =>
              have h1 := hat.out
              have h2 := hat2.out
              rw [h1, h2]
              omega
        · have HM : Hid ((((3 : Int) = 2 ∨ (3 : Int) = 3)) → 0 < r) := Lib.hid (fun _ => hr0)
          obtain ⟨n1, n2, n3, n4⟩ : mb ≠ rb ∧ ¬ mb = rb ∧ rb < w3.heap.size ∧ mb < w3.heap.size := ⟨hmne, hmne, E3.out.lts.1, E3.out.lts.2⟩
          obtain ⟨m0, mf⟩ : w3.cell? ⟨mb, 0, none⟩ = some (.int .i64 (mm : Int)) ∧ w3.frozen? ⟨mb, 0, none⟩ = false := by
            have hh := E3.out.many
            unfold ManyAt at hh
            exact ⟨by rw [Lib.cell_of_heap hh]; rfl, Lib.frozen_of_heap hh 0⟩
          rcases hlb with ⟨rfl, hmb⟩ | ⟨lg, rfl, hmb⟩
          · have RE : Hid (chkG L n (rdS L n r i left) = .bad 5 (posAt L n j)) := Lib.hid (by rw [CH.out, chk_many HW0.out (by rw [hkw.out]; exact HM.out), preG_bad])
            go_wp2_with fail
            refine (rd_fail 5 _ rb A c n j L 0 E3.out.rd).mono ?_
            rintro e w5 ⟨rfl, r5, k5⟩
            have R5 := Lib.hid r5
            have M5 := Lib.hid (E3.out.many.keepR k5 E3.out.ne)
            have K5 : Hid (KeepM rb mb w w5) := Lib.hid (K3.out.trans' (KeepM.of_r k5))
            clear r5 k5
            go_wp2_with fail
            go_ret2
            rw [RE.out]
            exact ⟨K5.out, j, mm, rfl, R5.out, M5.out⟩
          have RE : Hid (chkG L n (rdS L n r i left) = preG acc ((oneG L n (rdS L n (r - 1)) 3 j lg).bind fun g q => preG [g.1] (chkG L n (rdS L n r q g.2)))) := Lib.hid (by rw [CH.out, chk_step HW0.out (by rw [hkw.out]; exact HM.out), hkw.out])
          have KX : Hid (KeepM rb mb w3 (w3.setCell ⟨mb, 0, none⟩ (.int .i64 ((mm : Int) + 1)))) := Lib.hid (Keep.setCell (Keep.refl _ _) (p := ⟨mb, 0, none⟩) (by simp) _)
          have E4 : Hid (EnvR W0 (w3.setCell ⟨mb, 0, none⟩ (.int .i64 ((mm : Int) + 1))) rb mb A c n j L (mm + 1)) := Lib.hid ⟨E3.out.tab, E3.out.base.setCell (p := ⟨mb, 0, none⟩) E3.out.hm _, E3.out.hr, E3.out.hm, fun b o e => ⟨by simpa using (E3.out.hA b o e).1, (E3.out.hA b o e).2⟩, E3.out.ne, E3.out.rd.setg hmne (fun b o e => (E3.out.hA b o e).2) 0 _, E3.out.many.inc⟩
          have K4 : Hid (KeepM rb mb w (w3.setCell ⟨mb, 0, none⟩ (.int .i64 ((mm : Int) + 1)))) := Lib.hid (K3.out.trans' KX.out)
          have G4 : Hid (GrwO w.heap.size (w3.setCell ⟨mb, 0, none⟩ (.int .i64 ((mm : Int) + 1))) (.slice A' acc.length c') acc) := Lib.hid (G3.out.keep KX.out (fun b hb _ => ⟨by omega, by omega⟩))
          have S4 : Hid (wr.heap.size ≤ (w3.setCell ⟨mb, 0, none⟩ (.int .i64 ((mm : Int) + 1))).heap.size) := Lib.hid (by have := S3.out; simpa using this)
          go_wp2_with fail
          obtain ⟨w4, hw4⟩ : ∃ w4, (w3.setCell ⟨mb, 0, none⟩ (.int .i64 ((mm : Int) + 1))) = w4 := ⟨_, rfl⟩
          rw [hw4] at E4 K4 G4 S4 ⊢
          clear hw4 KX m0 mf hmb
          refine (IH.out d W0 w4 rb mb A c n j L (mm + 1) lg 3 HD.out h0d.out (fun hq => by first | exact HM.out hq | exact hr0) E4.out (by omega) hkw.out (by first | exact k0 | decide)).mono ?_
          intro e w5 hret
          have HN : Hid (∀ b q, oneG L n (rdS L n (r - 1)) 3 j lg = .ok b q → j < q) := Lib.hid (fun b q h => oneG_next h)
          generalize oneG L n (rdS L n (r - 1)) 3 j lg = g at *
          cases g with
          | bad fc fp =>
            obtain ⟨k5, x, q, m', rfl, r5, mm5⟩ := hret
            have K5 : Hid (KeepM rb mb w w5) := Lib.hid (K4.out.trans' k5)
            have R5 := Lib.hid (And.intro r5 mm5)
            clear k5 r5 mm5
            go_wp2_with fail
            go_ret2
            rw [RE.out]
            exact ⟨K5.out.trans' (KeepM.of_below (by repeat' (first | exact Below.refl _ _ | exact Nat.le_refl _ | (refine Below.alloc ?_ ?_ _) | (refine Below.setCell ?_ ?_ _) | (refine Below.drew ?_) | (refine below_drewN ?_ _) | assumption | (simp; done) | (simp; omega)))), q, m', rfl, R5.out.1.below (by repeat' (first | exact Below.refl _ _ | exact Nat.le_refl _ | (refine Below.alloc ?_ ?_ _) | (refine Below.setCell ?_ ?_ _) | (refine Below.drew ?_) | (refine below_drewN ?_ _) | assumption | (simp; done) | (simp; omega))), R5.out.2.below (by repeat' (first | exact Below.refl _ _ | exact Nat.le_refl _ | (refine Below.alloc ?_ ?_ _) | (refine Below.setCell ?_ ?_ _) | (refine Below.drew ?_) | (refine below_drewN ?_ _) | assumption | (simp; done) | (simp; omega)))⟩
          | ok b q =>
            obtain ⟨g, lf'⟩ := b
            obtain ⟨k5, x, m', rfl, so, r5, hm', mm5⟩ := hret
            have hjq := HN.out _ _ rfl
            simp only at so hm'
            have BX : Hid (Below w5.heap.size w5 (w5.alloc (.cells #[.int .i64 x.k, .string x.s, .int .i64 x.tk, .int .i64 x.tn, .string x.ts, .slice x.tA x.tm x.tc, .slice x.bA x.bm x.bc, .slice x.eA x.em x.ec] 67))) := Lib.hid (Below.alloc (Below.refl _ _) (Nat.le_refl _) _)
            have K45 : Hid (KeepM rb mb w4 (w5.alloc (.cells #[.int .i64 x.k, .string x.s, .int .i64 x.tk, .int .i64 x.tn, .string x.ts, .slice x.tA x.tm x.tc, .slice x.bA x.bm x.bc, .slice x.eA x.em x.ec] 67))) := Lib.hid (KeepM.trans' k5 (KeepM.of_below BX.out))
            have K6 : Hid (KeepM rb mb w (w5.alloc (.cells #[.int .i64 x.k, .string x.s, .int .i64 x.tk, .int .i64 x.tn, .string x.ts, .slice x.tA x.tm x.tc, .slice x.bA x.bm x.bc, .slice x.eA x.em x.ec] 67))) := Lib.hid (K4.out.trans' K45.out)
            have E6 : Hid (EnvR W0 (w5.alloc (.cells #[.int .i64 x.k, .string x.s, .int .i64 x.tk, .int .i64 x.tn, .string x.ts, .slice x.tA x.tm x.tc, .slice x.bA x.bm x.bc, .slice x.eA x.em x.ec] 67)) rb mb A c n q L m') := Lib.hid ((E4.out.step k5 r5 mm5).below BX.out)
            have SO : Hid (StO (w5.alloc (.cells #[.int .i64 x.k, .string x.s, .int .i64 x.tk, .int .i64 x.tn, .string x.ts, .slice x.tA x.tm x.tc, .slice x.bA x.bm x.bc, .slice x.eA x.em x.ec] 67)) (Made w4 (w5.alloc (.cells #[.int .i64 x.k, .string x.s, .int .i64 x.tk, .int .i64 x.tn, .string x.ts, .slice x.tA x.tm x.tc, .slice x.bA x.bm x.bc, .slice x.eA x.em x.ec] 67))) x g) := Lib.hid ((so.keep fun b hb => BX.out.block b hb.2).sub (fun b hb => ⟨hb.1, by have := hb.2; simp; omega⟩))
            have V6 : Hid ((w5.alloc (.cells #[.int .i64 x.k, .string x.s, .int .i64 x.tk, .int .i64 x.tn, .string x.ts, .slice x.tA x.tm x.tc, .slice x.bA x.bm x.bc, .slice x.eA x.em x.ec] 67)).heap[w5.heap.size]? = some (.cells #[.int .i64 x.k, .string x.s, .int .i64 x.tk, .int .i64 x.tn, .string x.ts, .slice x.tA x.tm x.tc, .slice x.bA x.bm x.bc, .slice x.eA x.em x.ec] 67 (0, 0))) := Lib.hid (heap_alloc_new _ _)
            have S6 : Hid (wr.heap.size ≤ (w5.alloc (.cells #[.int .i64 x.k, .string x.s, .int .i64 x.tk, .int .i64 x.tn, .string x.ts, .slice x.tA x.tm x.tc, .slice x.bA x.bm x.bc, .slice x.eA x.em x.ec] 67)).heap.size) := Lib.hid (by have := k5.size; have := S4.out; simp; omega)
            have RF : Hid (chkG L n (rdS L n r i left) = preG (acc ++ [g]) (chkG L n (rdS L n r q lf'))) := Lib.hid (by rw [RE.out, bind_ok, preG_app])
            clear k5 r5 mm5 so RE
            obtain ⟨xs, G, hxl, ow, hG, hgd, hx⟩ := G4.out
            have OW := Lib.hid (ow.keep K45.out (fun b hb => by have := (ow.lt b hb).1; exact ⟨by omega, by omega⟩)).own
            have OX := Lib.hid ow
            have HX := Lib.hid (And.intro hxl (And.intro hG (And.intro hgd hx)))
            have hacc : acc.length ≤ 6000 := by have := HAJ.out; omega
            clear ow hxl hG hgd hx
            go_upto_region 14 with fail
            obtain ⟨w6, hw6⟩ : ∃ w6, (w5.alloc (.cells #[.int .i64 x.k, .string x.s, .int .i64 x.tk, .int .i64 x.tn, .string x.ts, .slice x.tA x.tm x.tc, .slice x.bA x.bm x.bc, .slice x.eA x.em x.ec] 67)) = w6 := ⟨_, rfl⟩
            have hz5 : w5.heap.size < w6.heap.size := by rw [← hw6]; simp
            rw [hw6] at K45 K6 E6 SO V6 S6 OW ⊢
            clear hw6 BX
            obtain ⟨g5, hg5⟩ : ∃ g, w5.heap.size = g := ⟨_, rfl⟩
            rw [hg5] at V6 hz5 ⊢
            clear hg5
            obtain ⟨⟨c0, c1, c2, c3, c4, c5, c6, c7⟩, f0, f1, f2, f3, f4, f5, f6, f7⟩ := cells8R V6.out
            go_wp2_with (at_builtin; refine wpList_appG_new w6.heap.size rfl rfl _ _ _ rfl sgT OW.out _ 1 rfl rfl rfl (by simp [Value.oneCell']) (by simp only [maxLen]; omega) (by omega) ?_; intro v7 w7 own7 gr7)
            have GN : Hid (GrwO w.heap.size w7 v7 (acc ++ [g])) := Lib.hid (grw_app (S := fun b => b ≠ rb ∧ b ≠ mb) HX.out.1 OX.out HX.out.2.1 HX.out.2.2.1 HX.out.2.2.2 K45.out (fun b hb _ => ⟨by omega, by omega⟩) SO.out own7 gr7)
            have OKB : Hid (∀ b, b < w.heap.size → (.slice A' acc.length c' : Value).ownBlock ≠ some b) := Lib.hid fun b hb e => by have := OX.out.lt b e; omega
            have BG : Hid (Keep (fun b => b < w.heap.size) w6 w7) := Lib.hid (gr7.keep.mono fun b _ hb => OKB.out b hb)
            have E7 : Hid (EnvR W0 w7 rb mb A c n q L m') := Lib.hid (E6.out.grow BG.out hrb hmb (fun b o e => EE.out.as b o e) (fun b hb => by have := EE.out.base.size; omega))
            have K7 : Hid (KeepM rb mb w w7) := Lib.hid (K6.out.trans BG.out (fun b hb _ => hb))
            have hat2 := Lib.hid (atOf_rd E7.out.rd)
            clear own7 gr7 c0 c1 c2 c3 c4 c5 c6 c7 f0 f1 f2 f3 f4 f5 f6 f7
            go_wp2_with fail
            go_roundw
            case rel => exact ⟨acc ++ [g], q, lf', m', Lib.hid ⟨GN.out, E7.out, K7.out, by have := HAJ.out; simp; omega, RF.out⟩, hm'⟩
            case measure =>
              have h1 := hat.out
              have h2 := hat2.out
              rw [h1, h2]
              omega
        · have RE : Hid (chkG L n (rdS L n r i left) = .bad 4 (posAt L n j)) := Lib.hid (by rw [CH.out, hr0, chk_deep HW0.out (by rw [hkw.out]; omega), preG_bad])
          go_wp2_with fail
          refine (rd_fail 4 _ rb A c n j L 0 E3.out.rd).mono ?_
          rintro e w5 ⟨rfl, r5, k5⟩
          have R5 := Lib.hid r5
          have M5 := Lib.hid (E3.out.many.keepR k5 E3.out.ne)
          have K5 : Hid (KeepM rb mb w w5) := Lib.hid (K3.out.trans' (KeepM.of_r k5))
          clear r5 k5
          go_wp2_with fail
          go_ret2
          rw [RE.out]
          exact ⟨K5.out, j, mm, rfl, R5.out, M5.out⟩
        · have RE : Hid (chkG L n (rdS L n r i left) = .bad 4 (posAt L n j)) := Lib.hid (by rw [CH.out, hr0, chk_deep HW0.out (by rw [hkw.out]; omega), preG_bad])
          go_wp2_with fail
          refine (rd_fail 4 _ rb A c n j L 0 E3.out.rd).mono ?_
          rintro e w5 ⟨rfl, r5, k5⟩
          have R5 := Lib.hid r5
          have M5 := Lib.hid (E3.out.many.keepR k5 E3.out.ne)
          have K5 : Hid (KeepM rb mb w w5) := Lib.hid (K3.out.trans' (KeepM.of_r k5))
          clear r5 k5
          go_wp2_with fail
          go_ret2
          rw [RE.out]
          exact ⟨K5.out, j, mm, rfl, R5.out, M5.out⟩
/-- the program's reader of statements, whatever room is left -/
theorem rd_stmts_all (r : Nat) (h6 : r ≤ 6) : SsC r := by
  induction r with
  | zero => exact rd_stmts_of 0 h6 onX_zero
  | succ r ih => exact rd_stmts_of (r + 1) h6 (onX_succ r (rd_nested_of r (by omega) (rd_block_of r (ih (by omega)))))
end Go.Proofs.YtdanlgmpgdipnaaDoor
