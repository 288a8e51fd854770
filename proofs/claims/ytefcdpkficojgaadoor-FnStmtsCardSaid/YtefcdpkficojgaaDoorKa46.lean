/- Several texts in one: StSay. -/
import Derived.Test.YtefcdpkficojgaaDoorKa35
import Derived.Test.YtefcdpkficojgaaDoorKa45
import Derived.Deep.CutRange
namespace Go.Proofs.YtefcdpkficojgaaDoor
open Go.RowKit
set_option linter.unusedVariables false


theorem Grew.linkB {v u : Value} {w w1 w2 w3 : World} (h : Grew v u w w1) (b : Below w1.heap.size w1 w2) (k : Below w2.heap.size w2 w3) : Grew v u w w3 := h.trans ((Grew.of_below b).trans (Grew.of_below k))
theorem spec_l04Word (k : Int) (hk : k = 2 ∨ k = 3 ∨ k = 4 ∨ k = 5 ∨ k = 6 ∨ k = 7) (w : World) : Calls Tryd.prog 140 #[.int .i64 k] w fun e w' => e = .returned (.string (wdB k)) ∧ Below w.heap.size w w' := by
  rcases hk with rfl | rfl | rfl | rfl | rfl | rfl
  all_goals
    go_enter Tryd.func140, Tryd.ntmps140
    go_wp2_with fail
    go_ret
    exact ⟨rfl, (by repeat' (first | exact Below.refl _ _ | exact Nat.le_refl _ | (refine Below.alloc ?_ ?_ _) | (refine Below.setCell ?_ ?_ _) | (refine Below.drew ?_) | (refine below_drewN ?_ _) | assumption | (simp; done) | (simp; omega)))⟩
set_option maxHeartbeats 800000 in
theorem spec_l04Blanks (ah : Nat) (hah : ah ≤ 1000) (w0 w : World) (v : Value) (acc : List UInt8) (own : OutB w0 w v acc) (hb : acc.length + ah ≤ 60000000000) :
    Calls Tryd.prog 138 #[v, .int .i64 (ah : Int)] w fun e w' => ∃ v', e = .returned v' ∧ OutB w0 w' v' (acc ++ blanksL ah) ∧ Grew v v' w w' := by
  have OW := Lib.hid own
  obtain ⟨A0, c0, rfl, _⟩ := own.slice
  clear own
  go_enter Tryd.func138, Tryd.ntmps138
  go_wp2_with fail
  go_loopw [0, 5] (fun ov iv wr => ∃ j : Nat, j ≤ ah ∧ iv = .int .i64 (j : Int) ∧ ∃ A' n c', ov = .slice A' n c' ∧ Hid (n = acc.length + j ∧ OutB w0 wr (.slice A' n c') (acc ++ blanksL j) ∧ Grew (.slice A0 acc.length c0) (.slice A' n c') w wr)) (fun _ iv _ => ah - (intOf iv).toNat)
  case atStart => exact ⟨0, Nat.zero_le _, rfl, A0, _, c0, rfl, Lib.hid ⟨rfl, by simpa [blanksL] using OW.out, Grew.refl _ _⟩⟩
  case round =>
    obtain ⟨j, hj, rfl, A', n, c', rfl, HR⟩ := hrel
    obtain ⟨hn, own, gr⟩ := HR.out
    have O1 := Lib.hid own
    have G1 := Lib.hid gr
    clear own gr HR
    by_cases hlt : j < ah
    case neg =>
      go_wp2_with fail
      go_ret
      have : j = ah := by omega
      subst this
      exact ⟨_, rfl, O1.out, G1.out⟩
    go_wp2_with (at_builtin; refine wpList_outB_some rfl _ _ rfl rfl (O1.out.alloc _) _ 1 1 [32] rfl (Rd.new _ 1 1 _ _ rfl) (by simp only [List.length_append, blanksL_len]; omega) ?_; intro v2 w2 own2 kp2)
    have O2 : Hid (OutB w0 w2 v2 (acc ++ blanksL (j + 1))) := Lib.hid (by rw [blanksL_succ, ← List.append_assoc]; exact own2)
    have G2 := Lib.hid (Grew.link G1.out (Below.alloc (Below.refl _ _) (Nat.le_refl _) _) kp2)
    clear own2 kp2
    obtain ⟨A3, c3, rfl, _⟩ := O2.out.slice
    go_roundw
    case rel => exact ⟨j + 1, by omega, by go_num, A3, _, c3, rfl, Lib.hid ⟨by simp only [List.length_append, blanksL_len, Nat.add_assoc], O2.out, G2.out⟩⟩
    case measure => simp [intOf]; omega
def blockL (ah : Nat) (l : List St) : List UInt8 := [32, 123, 10] ++ txtGs (ah + 1) l ++ blanksL ah ++ [125]
abbrev SayC (l : List St) : Prop := ∀ (deep ah : Nat) (A : Option Addr) (c : Nat) (w0 w : World) (v : Value) (acc : List UInt8), StRow AnyB w0 A l → l.length ≤ c → c ≤ maxLen → rightGs deep l = true → ah + deep ≤ 26 → OutB w0 w v acc → acc.length + 3000 * snodess l ≤ 50000000000 →
  Calls Tryd.prog 66 #[v, .slice A l.length c, .int .i64 (ah : Int)] w fun e w' => ∃ v', e = .returned v' ∧ OutB w0 w' v' (acc ++ txtGs ah l) ∧ Grew v v' w w'
set_option maxHeartbeats 800000 in
theorem spec_l04Block (l : List St) (ih : SayC l) (deep ah : Nat) (A : Option Addr) (c : Nat) (w0 w : World) (v : Value) (acc : List UInt8) (row : StRow AnyB w0 A l) (hl : l.length ≤ c) (hc : c ≤ maxLen) (hr : rightGs deep l = true) (hd : ah + 1 + deep ≤ 26) (own : OutB w0 w v acc) (hb : acc.length + 10 + 3000 * snodess l ≤ 50000000000) :
    Calls Tryd.prog 141 #[v, .slice A l.length c, .int .i64 (ah : Int)] w fun e w' => ∃ v', e = .returned v' ∧ OutB w0 w' v' (acc ++ blockL ah l) ∧ Grew v v' w w' := by
  have OW := Lib.hid own
  have RW := Lib.hid row
  have HR := Lib.hid hr
  have IH := Lib.hid ih
  have hbl := blanksL_len ah
  have htl := txtGs_len hr (ah := ah + 1) (by omega)
  obtain ⟨A0, c0, rfl, _⟩ := own.slice
  unfold maxLen at hc
  clear own row hr ih
  go_enter Tryd.func141, Tryd.ntmps141
  go_wp2_with (at_builtin; refine wpList_outB_str rfl _ _ rfl rfl OW.out ⟨#[32, 123, 10]⟩ rfl (by simp only [ByteArray.size, List.size_toArray, List.length_cons, List.length_nil]; omega) ?_; intro v2 w2 own2 kp2)
  have O2 : Hid (OutB w0 w2 v2 (acc ++ [32, 123, 10])) := Lib.hid own2
  have G2 := Lib.hid kp2
  clear own2 kp2
  obtain ⟨L2, hL2⟩ : ∃ L, acc ++ [32, 123, 10] = L := ⟨_, rfl⟩
  have hl2 : L2.length ≤ acc.length + 3 := by rw [← hL2]; simp
  have HL2 := Lib.hid hL2
  rw [hL2] at O2
  clear hL2
  obtain ⟨A2, c2, rfl, _⟩ := O2.out.slice
  go_wp2_with fail
  have hcl := IH.out deep (ah + 1) A c w0 w2 (.slice A2 L2.length c2) L2 RW.out hl (by unfold maxLen; omega) HR.out (by omega) O2.out (by omega)
  rw [show ((ah + 1 : Nat) : Int) = (ah : Int) + 1 from by omega] at hcl
  refine hcl.mono ?_
  rintro e w3 ⟨v3, rfl, o3, k3⟩
  have O3 := Lib.hid o3
  have G3 := Lib.hid (G2.out.trans k3)
  clear o3 k3 hcl
  obtain ⟨L3, hL3⟩ : ∃ L, L2 ++ txtGs (ah + 1) l = L := ⟨_, rfl⟩
  have hl3 : L3.length ≤ 55000000000 := by rw [← hL3, List.length_append]; omega
  have HL3 := Lib.hid hL3
  rw [hL3] at O3
  clear hL3
  obtain ⟨A3, c3, rfl, _⟩ := O3.out.slice
  go_wp2_with fail
  refine (spec_l04Blanks ah (by omega) w0 _ _ _ O3.out (by omega)).mono ?_
  rintro e w4 ⟨v4, rfl, o4, k4⟩
  have O4 := Lib.hid o4
  have G4 := Lib.hid (G3.out.trans k4)
  clear o4 k4
  obtain ⟨L4, hL4⟩ : ∃ L, L3 ++ blanksL ah = L := ⟨_, rfl⟩
  have hl4 : L4.length ≤ 56000000000 := by rw [← hL4, List.length_append]; omega
  have HL4 := Lib.hid hL4
  rw [hL4] at O4
  clear hL4
  obtain ⟨A4, c4, rfl, _⟩ := O4.out.slice
  go_wp2_with (at_builtin; refine wpList_outB_some rfl _ _ rfl rfl (O4.out.alloc _) _ 1 1 [125] rfl (Rd.new _ 1 1 _ _ rfl) (by omega) ?_; intro v5 w5 own5 kp5)
  go_ret
  refine ⟨_, rfl, ?_, Grew.link G4.out (Below.alloc (Below.refl _ _) (Nat.le_refl _) _) kp5⟩
  have e : acc ++ blockL ah l = L4 ++ [125] := by rw [← HL4.out, ← HL3.out, ← HL2.out]; simp [blockL]
  rw [e]
  exact own5
set_option maxHeartbeats 6400000 in
set_option maxRecDepth 100000 in
theorem spec_l04Say_at (l : List St) (ih : ∀ g ∈ l, ∀ t k s body els, g = .mk k s t body els → SayC body ∧ SayC els) : SayC l := by
  intro deep ah A c w0 w v acc row hl hc hrg hda own hb
  have IH := Lib.hid ih
  have RW := Lib.hid row
  have OW := Lib.hid own
  have HRL := Lib.hid hrg
  obtain ⟨A0, c0, rfl, _⟩ := own.slice
  unfold maxLen at hc
  clear ih row own hrg
  go_enter Tryd.func66, Tryd.ntmps66
  go_wp2_with fail
  go_loopw [0, 7] (fun ov iv wr => ∃ j : Nat, j ≤ l.length ∧ iv = .int .i64 (j : Int) ∧ ∃ A' n c', ov = .slice A' n c' ∧ Hid (n = (acc ++ txtGs ah (l.take j)).length ∧ OutB w0 wr (.slice A' n c') (acc ++ txtGs ah (l.take j)) ∧ Grew (.slice A0 acc.length c0) (.slice A' n c') w wr)) (fun _ iv _ => l.length - (intOf iv).toNat)
  case atStart => exact ⟨0, Nat.zero_le _, rfl, A0, _, c0, rfl, Lib.hid ⟨by simp [txtGs], by simpa [txtGs] using OW.out, Grew.refl _ _⟩⟩
  case round =>
    obtain ⟨j, hj, rfl, A', n, c', rfl, HR⟩ := hrel
    obtain ⟨hn, own, gr⟩ := HR.out
    have O1 := Lib.hid own
    have G1 := Lib.hid gr
    clear own gr HR
    by_cases hlt : j < l.length
    case neg =>
      go_wp2_with fail
      go_ret
      have h1 := O1.out
      have h2 := G1.out
      rw [List.take_of_length_le (by omega)] at h1
      exact ⟨_, rfl, h1, h2⟩
    have hst := snodess_take l j hlt
    have hle := snodess_take_le l (j + 1)
    have htk : rightGs deep (l.take j) = true := by
      have e : rightGs deep l = (rightGs deep (l.take j) && rightGs deep (l.drop j)) := by rw [← rightGs_append, List.take_append_drop]
      have h := HRL.out
      rw [e, Bool.and_eq_true] at h
      exact h.1
    have hal := txtGs_len htk (ah := ah) hda
    obtain ⟨ACC, hACC⟩ : ∃ L, acc ++ txtGs ah (l.take j) = L := ⟨_, rfl⟩
    have hac : ACC.length ≤ acc.length + 3000 * snodess (l.take j) := by rw [← hACC, List.length_append]; omega
    have HACC := Lib.hid hACC
    rw [hACC] at O1 hn
    clear hACC hal htk
    subst hn
    have HTK := Lib.hid (txtGs_take ah l j hlt)
    obtain ⟨b, off, x, rfl, _, ⟨d0, d1, d2, d3, d4, d5, d6, d7⟩, hg⟩ := rd_stmt RW.out hlt
    obtain ⟨t, body, els, heq, _, _, ht, hb1, hb2, hb3, rb, he1, he2, he3, re⟩ := hg.inv
    have VB := Lib.hid (IH.out l[j] (List.getElem_mem hlt) t _ _ body els heq).1
    have VE := Lib.hid (IH.out l[j] (List.getElem_mem hlt) t _ _ body els heq).2
    have HEQ := Lib.hid heq
    have RB := Lib.hid rb
    have RE := Lib.hid re
    have HT := Lib.hid ht
    have hrj := rightGs_get HRL.out hlt
    rw [heq] at hrj
    have HRG := Lib.hid hrj
    have HSH := Lib.hid (right_shape hrj)
    obtain ⟨k, xs, tk, tn, ts, tA, tm, tc, bA, bm, bc, eA, em, ec⟩ := x
    simp only [V8.term] at hb1 he1 hb2 hb3 he2 he3 d0 d1 d2 d3 d4 d5 d6 d7 RB RE HEQ HT HRG HSH VB VE
    subst hb1 he1
    have hkk := shape_kind HSH.out
    have h0k : (0 : Int) ≤ (j : Int) := by omega
    have hown := O1.out.own
    replace d0 := cell_keep hown d0
    replace d1 := cell_keep hown d1
    replace d2 := cell_keep hown d2
    replace d3 := cell_keep hown d3
    replace d4 := cell_keep hown d4
    replace d5 := cell_keep hown d5
    replace d6 := cell_keep hown d6
    replace d7 := cell_keep hown d7
    have hsn1 : 1 ≤ snodes l[j] := by rw [HEQ.out, snodes]; omega
    clear heq hg rb re ht hown hrj
    go_wp2_with fail
    refine (spec_l04Blanks ah (by omega) w0 _ _ _ (O1.out.alloc _) (by omega)).mono ?_
    rintro e w2 ⟨v2, rfl, o2, k2⟩
    have O2 := Lib.hid o2
    have G2 := Lib.hid (Grew.link G1.out (Below.alloc (Below.refl _ _) (Nat.le_refl _) _) k2)
    have K2 := Lib.hid (Grew.keepB k2 (O1.out.alloc _))
    have BX : BoxB (wr.alloc (.cells #[.int .i64 k, .string xs, .int .i64 tk, .int .i64 tn, .string ts, .slice tA tm tc, .slice bA body.length bc, .slice eA els.length ec] 104)) wr.heap.size [.int .i64 k, .string xs, .int .i64 tk, .int .i64 tn, .string ts, .slice tA tm tc, .slice bA body.length bc, .slice eA els.length ec] := BoxB.lit rfl
    have sn : Sane 5 (wr.alloc (.cells #[.int .i64 k, .string xs, .int .i64 tk, .int .i64 tn, .string ts, .slice tA tm tc, .slice bA body.length bc, .slice eA els.length ec] 104)) wr.heap.size := sane_new (by decide)
    have y0 := KeepT.cellT K2.out sn (BX 0 _ rfl)
    have y1 := KeepT.cellT K2.out sn (BX 1 _ rfl)
    have y2 := KeepT.cellT K2.out sn (BX 2 _ rfl)
    have y3 := KeepT.cellT K2.out sn (BX 3 _ rfl)
    have y4 := KeepT.cellT K2.out sn (BX 4 _ rfl)
    have y5 := KeepT.cellT K2.out sn (BX 5 _ rfl)
    have y6 := KeepT.cellT K2.out sn (BX 6 _ rfl)
    have y7 := KeepT.cellT K2.out sn (BX 7 _ rfl)
    have SN := Lib.hid (sane_keep sn (by simp) K2.out)
    obtain ⟨L2, hL2⟩ : ∃ L, ACC ++ blanksL ah = L := ⟨_, rfl⟩
    have hl2 : L2.length ≤ ACC.length + ah := by rw [← hL2, List.length_append, blanksL_len]; omega
    have HL2 := Lib.hid hL2
    rw [hL2] at O2
    clear hL2 o2 k2 K2 BX sn d0 d1 d2 d3 d4 d5 d6 d7
    obtain ⟨A2, c2, rfl, _⟩ := O2.out.slice
    generalize wr.heap.size = g at *
    by_cases e1 : k = 1
    · subst e1
      obtain ⟨hnm, hok, rfl, rfl⟩ := shape_1 HSH.out
      have HOK := Lib.hid hok
      have hxs := name_len hnm
      rw [size_list] at hxs
      have htl := txt_len 6 t hok
      clear hnm hok
      have HNM : Hid ((xs ++ ⟨#[32, 61, 32]⟩ : ByteArray).size = xs.size + 3) := Lib.hid (by simp only [ByteArray.size_append]; rfl)
      have hc1 : ¬ (9223372036854775807 < xs.size + 3) := by omega
      go_upto_region 9 with fail
      have oX := O2.out
      have gr := Grew.refl (.slice A2 L2.length c2) w2
      have KS : Hid (∀ w', KeepT 5 w2 w' → Below w0.heap.size w0 w' → KeepT 5 w2 w' ∧ Below w0.heap.size w0 w' ∧ w'.cell? ⟨g, 1, none⟩ = some (.string xs) ∧ w'.cell? ⟨g, 2, none⟩ = some (.int .i64 tk) ∧ w'.cell? ⟨g, 3, none⟩ = some (.int .i64 tn) ∧ w'.cell? ⟨g, 4, none⟩ = some (.string ts) ∧ w'.cell? ⟨g, 5, none⟩ = some (.slice tA tm tc)) := Lib.hid (fun w' hk hb => ⟨hk, hb, KeepT.cellT hk SN.out y1, KeepT.cellT hk SN.out y2, KeepT.cellT hk SN.out y3, KeepT.cellT hk SN.out y4, KeepT.cellT hk SN.out y5⟩)
      go_region_held3 (fun w' => KeepT 5 w2 w' ∧ Below w0.heap.size w0 w' ∧ w'.cell? ⟨g, 1, none⟩ = some (.string xs) ∧ w'.cell? ⟨g, 2, none⟩ = some (.int .i64 tk) ∧ w'.cell? ⟨g, 3, none⟩ = some (.int .i64 tn) ∧ w'.cell? ⟨g, 4, none⟩ = some (.string ts) ∧ w'.cell? ⟨g, 5, none⟩ = some (.slice tA tm tc))
        (first | exact KS.out _ (KeepT.trans' (Grew.keepB gr O2.out) (KeepT.of_below' (by repeat' (first | exact Below.refl _ _ | exact Nat.le_refl _ | (refine Below.alloc ?_ ?_ _) | (refine Below.setCell ?_ ?_ _) | (refine Below.drew ?_) | (refine below_drewN ?_ _) | assumption | (simp; done) | (simp; omega))))) (below_then2 oX.own (by repeat' (first | exact Below.refl _ _ | exact Nat.le_refl _ | (refine Below.alloc ?_ ?_ _) | (refine Below.setCell ?_ ?_ _) | (refine Below.drew ?_) | (refine below_drewN ?_ _) | assumption | (simp; done) | (simp; omega)))) | fail)
        (first
          | (refine step_outB_str (by rfl) _ _ (by rfl) (by rfl) (oX.below (by repeat' (first | exact Below.refl _ _ | exact Nat.le_refl _ | (refine Below.alloc ?_ ?_ _) | (refine Below.setCell ?_ ?_ _) | (refine Below.drew ?_) | (refine below_drewN ?_ _) | assumption | (simp; done) | (simp; omega)))) (xs ++ ⟨#[32, 61, 32]⟩) (by rfl) (by have h7 := HNM.out; (try simp only [List.length_append, List.length_cons, List.length_nil, size_list, blanksL_len]); omega) ?_; intro vY wY oY kY; have gr := Grew.link gr (by repeat' (first | exact Below.refl _ _ | exact Nat.le_refl _ | (refine Below.alloc ?_ ?_ _) | (refine Below.setCell ?_ ?_ _) | (refine Below.drew ?_) | (refine below_drewN ?_ _) | assumption | (simp; done) | (simp; omega))) kY; (try have li := (by first | exact Lies.grew li kY | exact Lies.grew (Lies.below li (Below.refl _ _).drew) kY | exact Lies.grew (Lies.new oX 59) kY | exact Lies.grew (Lies.below (Lies.new oX 59) (Below.refl _ _).drew) kY)); have oX := oY; clear oY kY)
          | (go_at_call 139; refine (spec_l03Say t 6 _ _ _ _ _ _ w0 _ _ _ HOK.out HT.out (oX.below (by repeat' (first | exact Below.refl _ _ | exact Nat.le_refl _ | (refine Below.alloc ?_ ?_ _) | (refine Below.setCell ?_ ?_ _) | (refine Below.drew ?_) | (refine below_drewN ?_ _) | assumption | (simp; done) | (simp; omega)))) (by have h7 := HNM.out; (try simp only [List.length_append, List.length_cons, List.length_nil, size_list, blanksL_len]); omega) (by omega)).mono ?_; rintro e wY ⟨vY, rfl, oY, kY⟩; have gr := Grew.link gr (by repeat' (first | exact Below.refl _ _ | exact Nat.le_refl _ | (refine Below.alloc ?_ ?_ _) | (refine Below.setCell ?_ ?_ _) | (refine Below.drew ?_) | (refine below_drewN ?_ _) | assumption | (simp; done) | (simp; omega))) kY; (try have li := (by first | exact Lies.grew li kY | exact Lies.grew (Lies.below li (Below.refl _ _).drew) kY | exact Lies.grew (Lies.new oX 59) kY | exact Lies.grew (Lies.below (Lies.new oX 59) (Below.refl _ _).drew) kY)); have oX := oY; clear oY kY)
          | (refine step_outB_some (by rfl) _ _ (by rfl) (by rfl) (oX.below (by repeat' (first | exact Below.refl _ _ | exact Nat.le_refl _ | (refine Below.alloc ?_ ?_ _) | (refine Below.setCell ?_ ?_ _) | (refine Below.drew ?_) | (refine below_drewN ?_ _) | assumption | (simp; done) | (simp; omega)))) _ 1 1 [59] (by rfl) (by first | exact (Lies.new oX 59).rd | exact (Lies.new oX 59).rd.drew | exact li.rd | exact li.rd.drew) (by have h7 := HNM.out; (try simp only [List.length_append, List.length_cons, List.length_nil, size_list, blanksL_len]); omega) ?_; intro vY wY oY kY; have gr := Grew.link gr (by repeat' (first | exact Below.refl _ _ | exact Nat.le_refl _ | (refine Below.alloc ?_ ?_ _) | (refine Below.setCell ?_ ?_ _) | (refine Below.drew ?_) | (refine below_drewN ?_ _) | assumption | (simp; done) | (simp; omega))) kY; have oX := oY; clear oY kY)
          | fail)
      all_goals
       obtain ⟨LX, hLX⟩ : ∃ L, L2 ++ (xs ++ ⟨#[32, 61, 32]⟩ : ByteArray).data.toList ++ txtT t ++ [59] = L := ⟨_, rfl⟩
       have hlx : LX.length ≤ 56000000000 := by
         have h7 := HNM.out
         have h8 : (⟨#[32, 101, 108, 115, 101]⟩ : ByteArray).size = 5 := rfl
         rw [← hLX]
         (try simp only [List.length_append, List.length_cons, List.length_nil, size_list, blanksL_len])
         omega
       have HLX := Lib.hid hLX
       rw [hLX] at oX
       clear hLX
       have OX := Lib.hid oX
       have GX := Lib.hid (G2.out.trans gr)
       clear oX gr
       first | (obtain ⟨AX, cX, rfl, _⟩ := OX.out.slice) | skip
       go_wp2_with (at_builtin; refine wpList_outB_some rfl _ _ rfl rfl (OX.out.alloc _) _ 1 1 [10] rfl (Rd.new _ 1 1 _ _ rfl) (by omega) ?_; intro v8 w8 own8 kp8)
       have O8 : Hid (OutB w0 w8 v8 (acc ++ txtGs ah (l.take (j + 1)))) := Lib.hid (by
         rw [HTK.out, ← List.append_assoc, HACC.out, HEQ.out, txtG_1]
         have e : ACC ++ (blanksL ah ++ (xs.data.toList ++ [32, 61, 32]) ++ txtT t ++ [59] ++ [10]) = L2 ++ (xs ++ ⟨#[32, 61, 32]⟩ : ByteArray).data.toList ++ txtT t ++ [59] ++ [10] := by rw [← HL2.out]; simp
         rw [e, HLX.out]
         exact own8)
       have G8 := Lib.hid (Grew.link GX.out (Below.alloc (Below.refl _ _) (Nat.le_refl _) _) kp8)
       clear own8 kp8
       obtain ⟨A9, c9, rfl, _⟩ := O8.out.slice
       go_roundw
       case rel => exact ⟨j + 1, by omega, by go_num, A9, _, c9, rfl, Lib.hid ⟨rfl, O8.out, G8.out⟩⟩
       case measure => simp [intOf]; omega
    by_cases e8 : k = 8
    · subst e8
      have HNM : Hid True := Lib.hid trivial
      go_upto_region 18 with (at_builtin; refine wpList_outB_str rfl _ _ rfl rfl O2.out ⟨#[115, 107, 105, 112, 59]⟩ rfl (by simp only [ByteArray.size, List.size_toArray, List.length_cons, List.length_nil]; omega) ?_; intro v3 w3 own3 kp3; obtain ⟨LX, hLX⟩ : ∃ L, L2 ++ [115, 107, 105, 112, 59] = L := ⟨_, rfl⟩; have OX : Hid (OutB w0 w3 v3 LX) := Lib.hid (by rw [← hLX]; exact own3); have HLX := Lib.hid hLX; have GX := Lib.hid (G2.out.trans kp3); clear own3 kp3 hLX; obtain ⟨AX, cX, rfl, _⟩ := OX.out.slice)
      have hlx : LX.length ≤ 56000000000 := by
        rw [← HLX.out]
        simp only [List.length_append, List.length_cons, List.length_nil]
        omega
      go_wp2_with (at_builtin; refine wpList_outB_some rfl _ _ rfl rfl (OX.out.alloc _) _ 1 1 [10] rfl (Rd.new _ 1 1 _ _ rfl) (by omega) ?_; intro v8 w8 own8 kp8)
      have O8 : Hid (OutB w0 w8 v8 (acc ++ txtGs ah (l.take (j + 1)))) := Lib.hid (by
        rw [HTK.out, ← List.append_assoc, HACC.out, HEQ.out, txtG_8]
        have e : ACC ++ (blanksL ah ++ [115, 107, 105, 112, 59] ++ [10]) = L2 ++ [115, 107, 105, 112, 59] ++ [10] := by rw [← HL2.out]; simp
        rw [e, HLX.out]
        exact own8)
      have G8 := Lib.hid (Grew.link GX.out (Below.alloc (Below.refl _ _) (Nat.le_refl _) _) kp8)
      clear own8 kp8
      obtain ⟨A9, c9, rfl, _⟩ := O8.out.slice
      go_roundw
      case rel => exact ⟨j + 1, by omega, by go_num, A9, _, c9, rfl, Lib.hid ⟨rfl, O8.out, G8.out⟩⟩
      case measure => simp [intOf]; omega
    by_cases em' : k = 2 ∨ k = 3
    · have hk := em'
      obtain ⟨hok, dp, rfl, hrb, hre⟩ := right_many hk HRG.out
      have HOK := Lib.hid hok
      have htl := txt_len 6 t hok
      have hwl := wdL_len k
      unfold wdL at hwl
      rw [size_list] at hwl
      have hbk := txtGs_len hrb (ah := ah + 1) (by omega)
      have hek := txtGs_len hre (ah := ah + 1) (by omega)
      have hbl := blanksL_len ah
      have HNM : Hid ((wdB k ++ ⟨#[32]⟩ : ByteArray).size = (wdB k).size + 1) := Lib.hid (by simp only [ByteArray.size_append]; rfl)
      have HKM := Lib.hid hk
      have HK : Hid (k = 2 ∨ k = 3 ∨ k = 4 ∨ k = 5 ∨ k = 6 ∨ k = 7) := Lib.hid (by omega)
      have hsb : snodess body + snodess els + 1 ≤ snodes l[j] := by rw [HEQ.out, snodes]; omega
      have BB : Hid (∀ (w : World) (v : Value) (acc : List UInt8), OutB w0 w v acc → acc.length + 10 + 3000 * snodess body ≤ 50000000000 → Calls Tryd.prog 141 #[v, .slice bA body.length bc, .int .i64 (ah : Int)] w fun e w' => ∃ v', e = .returned v' ∧ OutB w0 w' v' (acc ++ blockL ah body) ∧ Grew v v' w w') := Lib.hid fun w v acc o h => spec_l04Block body VB.out dp ah bA bc w0 w v acc RB.out hb2 hb3 hrb (by omega) o h
      have BE : Hid (∀ (w : World) (v : Value) (acc : List UInt8), OutB w0 w v acc → acc.length + 10 + 3000 * snodess els ≤ 50000000000 → Calls Tryd.prog 141 #[v, .slice eA els.length ec, .int .i64 (ah : Int)] w fun e w' => ∃ v', e = .returned v' ∧ OutB w0 w' v' (acc ++ blockL ah els) ∧ Grew v v' w w') := Lib.hid fun w v acc o h => spec_l04Block els VE.out dp ah eA ec w0 w v acc RE.out he2 he3 hre (by omega) o h
      have hbk2 : (blockL ah body).length ≤ 3000 * snodess body + 40 := by unfold blockL; simp only [List.length_append, List.length_cons, List.length_nil]; omega
      have hek2 : (blockL ah els).length ≤ 3000 * snodess els + 40 := by unfold blockL; simp only [List.length_append, List.length_cons, List.length_nil]; omega
      clear hok hrb hre
      have q1 : (k == 1) = false := beq_eq_false_iff_ne.2 (by omega)
      have qk : (k == 2) = true ∨ ((k == 2) = false ∧ (k == 3) = true) := by
        rcases hk with rfl | rfl
        · exact .inl rfl
        · exact .inr ⟨rfl, rfl⟩
      clear hk
      have hc1 : ¬ (9223372036854775807 < (wdB k).size + 1) := by omega
      rcases qk with q2 | ⟨q2, q3⟩
      all_goals
        go_upto_region 12 with fail
        have oX := O2.out
        have gr := Grew.refl (.slice A2 L2.length c2) w2
        have KS : Hid (∀ w', KeepT 5 w2 w' → Below w0.heap.size w0 w' → KeepT 5 w2 w' ∧ Below w0.heap.size w0 w' ∧ w'.cell? ⟨g, 0, none⟩ = some (.int .i64 k) ∧ w'.cell? ⟨g, 2, none⟩ = some (.int .i64 tk) ∧ w'.cell? ⟨g, 3, none⟩ = some (.int .i64 tn) ∧ w'.cell? ⟨g, 4, none⟩ = some (.string ts) ∧ w'.cell? ⟨g, 5, none⟩ = some (.slice tA tm tc)) := Lib.hid (fun w' hk hb => ⟨hk, hb, KeepT.cellT hk SN.out y0, KeepT.cellT hk SN.out y2, KeepT.cellT hk SN.out y3, KeepT.cellT hk SN.out y4, KeepT.cellT hk SN.out y5⟩)
        go_region_held3 (fun w' => KeepT 5 w2 w' ∧ Below w0.heap.size w0 w' ∧ w'.cell? ⟨g, 0, none⟩ = some (.int .i64 k) ∧ w'.cell? ⟨g, 2, none⟩ = some (.int .i64 tk) ∧ w'.cell? ⟨g, 3, none⟩ = some (.int .i64 tn) ∧ w'.cell? ⟨g, 4, none⟩ = some (.string ts) ∧ w'.cell? ⟨g, 5, none⟩ = some (.slice tA tm tc))
          (first | exact KS.out _ (KeepT.trans' (Grew.keepB gr O2.out) (KeepT.of_below' (by repeat' (first | exact Below.refl _ _ | exact Nat.le_refl _ | (refine Below.alloc ?_ ?_ _) | (refine Below.setCell ?_ ?_ _) | (refine Below.drew ?_) | (refine below_drewN ?_ _) | assumption | (simp; done) | (simp; omega))))) (below_then2 oX.own (by repeat' (first | exact Below.refl _ _ | exact Nat.le_refl _ | (refine Below.alloc ?_ ?_ _) | (refine Below.setCell ?_ ?_ _) | (refine Below.drew ?_) | (refine below_drewN ?_ _) | assumption | (simp; done) | (simp; omega)))) | fail)
          (first
            | (go_at_call 140; refine (spec_l04Word k HK.out _).mono ?_; rintro e wY ⟨rfl, bY⟩; have gr := Grew.linkB gr (by repeat' (first | exact Below.refl _ _ | exact Nat.le_refl _ | (refine Below.alloc ?_ ?_ _) | (refine Below.setCell ?_ ?_ _) | (refine Below.drew ?_) | (refine below_drewN ?_ _) | assumption | (simp; done) | (simp; omega))) bY; have oX := (oX.below (by repeat' (first | exact Below.refl _ _ | exact Nat.le_refl _ | (refine Below.alloc ?_ ?_ _) | (refine Below.setCell ?_ ?_ _) | (refine Below.drew ?_) | (refine below_drewN ?_ _) | assumption | (simp; done) | (simp; omega)))).below bY; clear bY)
            | (refine step_outB_str (by rfl) _ _ (by rfl) (by rfl) (oX.below (by repeat' (first | exact Below.refl _ _ | exact Nat.le_refl _ | (refine Below.alloc ?_ ?_ _) | (refine Below.setCell ?_ ?_ _) | (refine Below.drew ?_) | (refine below_drewN ?_ _) | assumption | (simp; done) | (simp; omega)))) (wdB k ++ ⟨#[32]⟩) (by rfl) (by have h7 := HNM.out; (try simp only [List.length_append, List.length_cons, List.length_nil, size_list, blanksL_len]); omega) ?_; intro vY wY oY kY; have gr := Grew.link gr (by repeat' (first | exact Below.refl _ _ | exact Nat.le_refl _ | (refine Below.alloc ?_ ?_ _) | (refine Below.setCell ?_ ?_ _) | (refine Below.drew ?_) | (refine below_drewN ?_ _) | assumption | (simp; done) | (simp; omega))) kY; have oX := oY; clear oY kY)
            | (go_at_call 139; refine (spec_l03Say t 6 _ _ _ _ _ _ w0 _ _ _ HOK.out HT.out (oX.below (by repeat' (first | exact Below.refl _ _ | exact Nat.le_refl _ | (refine Below.alloc ?_ ?_ _) | (refine Below.setCell ?_ ?_ _) | (refine Below.drew ?_) | (refine below_drewN ?_ _) | assumption | (simp; done) | (simp; omega)))) (by have h7 := HNM.out; (try simp only [List.length_append, List.length_cons, List.length_nil, size_list, blanksL_len]); omega) (by omega)).mono ?_; rintro e wY ⟨vY, rfl, oY, kY⟩; have gr := Grew.link gr (by repeat' (first | exact Below.refl _ _ | exact Nat.le_refl _ | (refine Below.alloc ?_ ?_ _) | (refine Below.setCell ?_ ?_ _) | (refine Below.drew ?_) | (refine below_drewN ?_ _) | assumption | (simp; done) | (simp; omega))) kY; (try have li := (by first | exact Lies.grew li kY | exact Lies.grew (Lies.below li (Below.refl _ _).drew) kY | exact Lies.grew (Lies.new oX 59) kY | exact Lies.grew (Lies.below (Lies.new oX 59) (Below.refl _ _).drew) kY)); have oX := oY; clear oY kY)
            | fail)
        obtain ⟨L3, hL3⟩ : ∃ L, L2 ++ (wdB k ++ ⟨#[32]⟩ : ByteArray).data.toList ++ txtT t = L := ⟨_, rfl⟩
        have hl3 : L3.length ≤ L2.length + 2000 := by rw [← hL3]; simp only [List.length_append, size_list]; have := HNM.out; omega
        have HL3 := Lib.hid hL3
        rw [hL3] at oX
        clear hL3
        have O3 := Lib.hid oX
        have G3 := Lib.hid (G2.out.trans gr)
        have K3 := Lib.hid (Grew.keepB gr O2.out)
        clear oX gr
        rename World => w3
        obtain ⟨A3, c3, rfl, _⟩ := O3.out.slice
        have z6 := KeepT.cellT K3.out SN.out y6
        have z7 := KeepT.cellT K3.out SN.out y7
        have SN3 := Lib.hid (sane_keep SN.out (cell_lt y6) K3.out)
        go_wp2_with fail
        refine (BB.out _ _ _ O3.out (by omega)).mono ?_
        rintro e w4 ⟨v4, rfl, o4, k4⟩
        have O4 := Lib.hid o4
        have G4 := Lib.hid (G3.out.trans k4)
        have K4 := Lib.hid (Grew.keepB k4 O3.out)
        clear o4 k4
        have u7 := KeepT.cellT K4.out SN3.out z7
        have SN4 := Lib.hid (sane_keep SN3.out (cell_lt z7) K4.out)
        obtain ⟨L4, hL4⟩ : ∃ L, L3 ++ blockL ah body = L := ⟨_, rfl⟩
        have hl4 : L4.length ≤ L2.length + 2040 + 3000 * snodess body := by rw [← hL4, List.length_append]; omega
        have HL4 := Lib.hid hL4
        rw [hL4] at O4
        clear hL4
        obtain ⟨A4, c4, rfl, _⟩ := O4.out.slice
        cases hel : decide (0 < els.length) with
        | false =>
          have h0 : els = [] := List.eq_nil_of_length_eq_zero (by simpa using hel)
          have h0i : ¬ (0 : Int) < (els.length : Int) := by rw [h0]; decide
          have hlx : L4.length ≤ 56000000000 := by omega
          have OX := Lib.hid O4.out
          have GX := Lib.hid G4.out
          go_wp2_with (at_builtin; refine wpList_outB_some rfl _ _ rfl rfl (OX.out.alloc _) _ 1 1 [10] rfl (Rd.new _ 1 1 _ _ rfl) (by omega) ?_; intro v8 w8 own8 kp8)
          have O8 : Hid (OutB w0 w8 v8 (acc ++ txtGs ah (l.take (j + 1)))) := Lib.hid (by
            rw [HTK.out, ← List.append_assoc, HACC.out, HEQ.out, txtG_m HKM.out, h0, elseL]
            have e : ACC ++ (blanksL ah ++ (wdL k ++ [32]) ++ txtT t ++ ([32, 123, 10] ++ txtGs (ah + 1) body ++ blanksL ah ++ [125]) ++ (if ([] : List St).length = 0 then [] else [32, 101, 108, 115, 101] ++ ([32, 123, 10] ++ txtGs (ah + 1) [] ++ blanksL ah ++ [125])) ++ [10]) = L4 ++ [10] := by rw [← HL4.out, ← HL3.out, ← HL2.out]; unfold wdL blockL; simp
            rw [e]
            exact own8)
          have G8 := Lib.hid (Grew.link GX.out (Below.alloc (Below.refl _ _) (Nat.le_refl _) _) kp8)
          clear own8 kp8
          obtain ⟨A9, c9, rfl, _⟩ := O8.out.slice
          go_roundw
          case rel => exact ⟨j + 1, by omega, by go_num, A9, _, c9, rfl, Lib.hid ⟨rfl, O8.out, G8.out⟩⟩
          case measure => simp [intOf]; omega
        | true =>
          have h0 : 0 < els.length := by simpa using hel
          have h0i : (0 : Int) < (els.length : Int) := by omega
          go_upto_region 15 with fail
          have oX := O4.out
          have gr := Grew.refl (.slice A4 L4.length c4) w4
          have KS : Hid (∀ w', KeepT 5 w4 w' → Below w0.heap.size w0 w' → KeepT 5 w4 w' ∧ Below w0.heap.size w0 w' ∧ w'.cell? ⟨g, 7, none⟩ = some (.slice eA els.length ec)) := Lib.hid (fun w' hk hb => ⟨hk, hb, KeepT.cellT hk SN4.out u7⟩)
          go_region_held3 (fun w' => KeepT 5 w4 w' ∧ Below w0.heap.size w0 w' ∧ w'.cell? ⟨g, 7, none⟩ = some (.slice eA els.length ec))
            (first | exact KS.out _ (KeepT.trans' (Grew.keepB gr O4.out) (KeepT.of_below' (by repeat' (first | exact Below.refl _ _ | exact Nat.le_refl _ | (refine Below.alloc ?_ ?_ _) | (refine Below.setCell ?_ ?_ _) | (refine Below.drew ?_) | (refine below_drewN ?_ _) | assumption | (simp; done) | (simp; omega))))) (below_then2 oX.own (by repeat' (first | exact Below.refl _ _ | exact Nat.le_refl _ | (refine Below.alloc ?_ ?_ _) | (refine Below.setCell ?_ ?_ _) | (refine Below.drew ?_) | (refine below_drewN ?_ _) | assumption | (simp; done) | (simp; omega)))) | fail)
            (first
              | (refine step_outB_str (by rfl) _ _ (by rfl) (by rfl) (oX.below (by repeat' (first | exact Below.refl _ _ | exact Nat.le_refl _ | (refine Below.alloc ?_ ?_ _) | (refine Below.setCell ?_ ?_ _) | (refine Below.drew ?_) | (refine below_drewN ?_ _) | assumption | (simp; done) | (simp; omega)))) ⟨#[32, 101, 108, 115, 101]⟩ (by rfl) (by simp only [ByteArray.size, List.size_toArray, List.length_cons, List.length_nil]; omega) ?_; intro vY wY oY kY; have gr := Grew.link gr (by repeat' (first | exact Below.refl _ _ | exact Nat.le_refl _ | (refine Below.alloc ?_ ?_ _) | (refine Below.setCell ?_ ?_ _) | (refine Below.drew ?_) | (refine below_drewN ?_ _) | assumption | (simp; done) | (simp; omega))) kY; have oX := oY; clear oY kY)
              | (go_at_call 141; refine (BE.out _ _ _ (oX.below (by repeat' (first | exact Below.refl _ _ | exact Nat.le_refl _ | (refine Below.alloc ?_ ?_ _) | (refine Below.setCell ?_ ?_ _) | (refine Below.drew ?_) | (refine below_drewN ?_ _) | assumption | (simp; done) | (simp; omega)))) (by have h8 : (⟨#[32, 101, 108, 115, 101]⟩ : ByteArray).size = 5 := rfl; (try simp only [List.length_append, List.length_cons, List.length_nil, size_list]); omega)).mono ?_; rintro e wY ⟨vY, rfl, oY, kY⟩; have gr := Grew.link gr (by repeat' (first | exact Below.refl _ _ | exact Nat.le_refl _ | (refine Below.alloc ?_ ?_ _) | (refine Below.setCell ?_ ?_ _) | (refine Below.drew ?_) | (refine below_drewN ?_ _) | assumption | (simp; done) | (simp; omega))) kY; have oX := oY; clear oY kY)
              | fail)
          all_goals
           obtain ⟨LX, hLX⟩ : ∃ L, L4 ++ (⟨#[32, 101, 108, 115, 101]⟩ : ByteArray).data.toList ++ blockL ah els = L := ⟨_, rfl⟩
           have hlx : LX.length ≤ 56000000000 := by
             have h7 := HNM.out
             have h8 : (⟨#[32, 101, 108, 115, 101]⟩ : ByteArray).size = 5 := rfl
             rw [← hLX]
             (try simp only [List.length_append, List.length_cons, List.length_nil, size_list, blanksL_len])
             omega
           have HLX := Lib.hid hLX
           rw [hLX] at oX
           clear hLX
           have OX := Lib.hid oX
           have GX := Lib.hid (G4.out.trans gr)
           clear oX gr
           first | (obtain ⟨AX, cX, rfl, _⟩ := OX.out.slice) | skip
           go_wp2_with (at_builtin; refine wpList_outB_some rfl _ _ rfl rfl (OX.out.alloc _) _ 1 1 [10] rfl (Rd.new _ 1 1 _ _ rfl) (by omega) ?_; intro v8 w8 own8 kp8)
           have O8 : Hid (OutB w0 w8 v8 (acc ++ txtGs ah (l.take (j + 1)))) := Lib.hid (by
             rw [HTK.out, ← List.append_assoc, HACC.out, HEQ.out, txtG_m HKM.out, elseL, if_neg (show ¬ els.length = 0 by omega)]
             have e : ACC ++ (blanksL ah ++ (wdL k ++ [32]) ++ txtT t ++ ([32, 123, 10] ++ txtGs (ah + 1) body ++ blanksL ah ++ [125]) ++ ([32, 101, 108, 115, 101] ++ ([32, 123, 10] ++ txtGs (ah + 1) els ++ blanksL ah ++ [125])) ++ [10]) = L4 ++ (⟨#[32, 101, 108, 115, 101]⟩ : ByteArray).data.toList ++ blockL ah els ++ [10] := by rw [← HL4.out, ← HL3.out, ← HL2.out]; unfold wdL blockL; simp
             rw [e, HLX.out]
             exact own8)
           have G8 := Lib.hid (Grew.link GX.out (Below.alloc (Below.refl _ _) (Nat.le_refl _) _) kp8)
           clear own8 kp8
           obtain ⟨A9, c9, rfl, _⟩ := O8.out.slice
           go_roundw
           case rel => exact ⟨j + 1, by omega, by go_num, A9, _, c9, rfl, Lib.hid ⟨rfl, O8.out, G8.out⟩⟩
           case measure => simp [intOf]; omega
    have hk : k = 4 ∨ k = 5 ∨ k = 6 ∨ k = 7 := by omega
    clear hkk e1 e8 em'
    obtain ⟨hnm, rfl, rfl⟩ := shape_w hk HSH.out
    have hxs := name_len hnm
    rw [size_list] at hxs
    have hwl := wdL_len k
    unfold wdL at hwl
    rw [size_list] at hwl
    have HNM : Hid ((wdB k ++ ⟨#[32]⟩ ++ xs ++ ⟨#[59]⟩ : ByteArray).size = (wdB k).size + 1 + xs.size + 1) := Lib.hid (by simp only [ByteArray.size_append]; rfl)
    have HKW := Lib.hid hk
    have HK : Hid (k = 2 ∨ k = 3 ∨ k = 4 ∨ k = 5 ∨ k = 6 ∨ k = 7) := Lib.hid (by omega)
    clear hnm
    have q1 : (k == 1) = false := beq_eq_false_iff_ne.2 (by omega)
    have q2 : (k == 2) = false := beq_eq_false_iff_ne.2 (by omega)
    have q3 : (k == 3) = false := beq_eq_false_iff_ne.2 (by omega)
    have q8 : (k == 8) = false := beq_eq_false_iff_ne.2 (by omega)
    clear hk
    have hc1 : ¬ (9223372036854775807 < (wdB k).size + 1) := by omega
    have hc2 : ¬ (9223372036854775807 < (wdB k).size + 1 + xs.size) := by omega
    have hc3 : ¬ (9223372036854775807 < (wdB k).size + 1 + xs.size + 1) := by omega
    go_upto_region 7 with fail
    have oX := O2.out
    have gr := Grew.refl (.slice A2 L2.length c2) w2
    have KS : Hid (∀ w', KeepT 5 w2 w' → Below w0.heap.size w0 w' → KeepT 5 w2 w' ∧ Below w0.heap.size w0 w' ∧ w'.cell? ⟨g, 0, none⟩ = some (.int .i64 k) ∧ w'.cell? ⟨g, 1, none⟩ = some (.string xs)) := Lib.hid (fun w' hk hb => ⟨hk, hb, KeepT.cellT hk SN.out y0, KeepT.cellT hk SN.out y1⟩)
    go_region_held3 (fun w' => KeepT 5 w2 w' ∧ Below w0.heap.size w0 w' ∧ w'.cell? ⟨g, 0, none⟩ = some (.int .i64 k) ∧ w'.cell? ⟨g, 1, none⟩ = some (.string xs))
      (first | exact KS.out _ (KeepT.trans' (Grew.keepB gr O2.out) (KeepT.of_below' (by repeat' (first | exact Below.refl _ _ | exact Nat.le_refl _ | (refine Below.alloc ?_ ?_ _) | (refine Below.setCell ?_ ?_ _) | (refine Below.drew ?_) | (refine below_drewN ?_ _) | assumption | (simp; done) | (simp; omega))))) (below_then2 oX.own (by repeat' (first | exact Below.refl _ _ | exact Nat.le_refl _ | (refine Below.alloc ?_ ?_ _) | (refine Below.setCell ?_ ?_ _) | (refine Below.drew ?_) | (refine below_drewN ?_ _) | assumption | (simp; done) | (simp; omega)))) | fail)
      (first
        | (go_at_call 140; refine (spec_l04Word k HK.out _).mono ?_; rintro e wY ⟨rfl, bY⟩; have gr := Grew.linkB gr (by repeat' (first | exact Below.refl _ _ | exact Nat.le_refl _ | (refine Below.alloc ?_ ?_ _) | (refine Below.setCell ?_ ?_ _) | (refine Below.drew ?_) | (refine below_drewN ?_ _) | assumption | (simp; done) | (simp; omega))) bY; have oX := (oX.below (by repeat' (first | exact Below.refl _ _ | exact Nat.le_refl _ | (refine Below.alloc ?_ ?_ _) | (refine Below.setCell ?_ ?_ _) | (refine Below.drew ?_) | (refine below_drewN ?_ _) | assumption | (simp; done) | (simp; omega)))).below bY; clear bY)
        | (refine step_outB_str (by rfl) _ _ (by rfl) (by rfl) (oX.below (by repeat' (first | exact Below.refl _ _ | exact Nat.le_refl _ | (refine Below.alloc ?_ ?_ _) | (refine Below.setCell ?_ ?_ _) | (refine Below.drew ?_) | (refine below_drewN ?_ _) | assumption | (simp; done) | (simp; omega)))) (wdB k ++ ⟨#[32]⟩ ++ xs ++ ⟨#[59]⟩) (by rfl) (by have h7 := HNM.out; (try simp only [List.length_append, List.length_cons, List.length_nil, size_list, blanksL_len]); omega) ?_; intro vY wY oY kY; have gr := Grew.link gr (by repeat' (first | exact Below.refl _ _ | exact Nat.le_refl _ | (refine Below.alloc ?_ ?_ _) | (refine Below.setCell ?_ ?_ _) | (refine Below.drew ?_) | (refine below_drewN ?_ _) | assumption | (simp; done) | (simp; omega))) kY; have oX := oY; clear oY kY)
        | fail)
    all_goals
     obtain ⟨LX, hLX⟩ : ∃ L, L2 ++ ((wdB k ++ ⟨#[32]⟩ ++ xs ++ ⟨#[59]⟩) : ByteArray).data.toList = L := ⟨_, rfl⟩
     have hlx : LX.length ≤ 56000000000 := by
       have h7 := HNM.out
       have h8 : (⟨#[32, 101, 108, 115, 101]⟩ : ByteArray).size = 5 := rfl
       rw [← hLX]
       (try simp only [List.length_append, List.length_cons, List.length_nil, size_list, blanksL_len])
       omega
     have HLX := Lib.hid hLX
     rw [hLX] at oX
     clear hLX
     have OX := Lib.hid oX
     have GX := Lib.hid (G2.out.trans gr)
     clear oX gr
     first | (obtain ⟨AX, cX, rfl, _⟩ := OX.out.slice) | skip
     go_wp2_with (at_builtin; refine wpList_outB_some rfl _ _ rfl rfl (OX.out.alloc _) _ 1 1 [10] rfl (Rd.new _ 1 1 _ _ rfl) (by omega) ?_; intro v8 w8 own8 kp8)
     have O8 : Hid (OutB w0 w8 v8 (acc ++ txtGs ah (l.take (j + 1)))) := Lib.hid (by
       rw [HTK.out, ← List.append_assoc, HACC.out, HEQ.out, txtG_w HKW.out]
       have e : ACC ++ (blanksL ah ++ (wdL k ++ [32] ++ xs.data.toList ++ [59]) ++ [10]) = L2 ++ ((wdB k ++ ⟨#[32]⟩ ++ xs ++ ⟨#[59]⟩) : ByteArray).data.toList ++ [10] := by rw [← HL2.out]; unfold wdL; simp
       rw [e, HLX.out]
       exact own8)
     have G8 := Lib.hid (Grew.link GX.out (Below.alloc (Below.refl _ _) (Nat.le_refl _) _) kp8)
     clear own8 kp8
     obtain ⟨A9, c9, rfl, _⟩ := O8.out.slice
     go_roundw
     case rel => exact ⟨j + 1, by omega, by go_num, A9, _, c9, rfl, Lib.hid ⟨rfl, O8.out, G8.out⟩⟩
     case measure => simp [intOf]; omega
theorem spec_l04Say (l : List St) : SayC l := by
  induction hN : snodess l using Nat.strongRecOn generalizing l with
  | ind N ih =>
    refine spec_l04Say_at l fun g hg t k s body els heq => ?_
    have := snodess_le hg
    have hs : snodes g = 1 + snodess body + snodess els := by rw [heq, snodes]
    exact ⟨ih _ (by omega) body rfl, ih _ (by omega) els rfl⟩
end Go.Proofs.YtefcdpkficojgaaDoor
