/- Several texts in one: StOkLaw, StTxtLaw. -/
import Derived.Test.YtefcdpkficojgaaDoorKb25
import Derived.Test.YtefcdpkficojgaaDoorKb23
import Derived.Test.YtefcdpkficojgaaDoorKb19
import Derived.Test.YtefcdpkficojgaaDoorKb29
import Derived.Test.YtefcdpkficojgaaDoorKb32
namespace Go.Proofs.YtefcdpkficojgaaDoor
open Go.RowKit
set_option linter.unusedVariables false


theorem stRow1 {F : Nat → Prop} {w w2 : World} {x : V8} {g : St} (h : StIs AnyB w x g) (hb : Below w.heap.size w w2) (hF : ∀ b, b < w.heap.size → F b) {b : Nat} (hc : BoxB w2 b x.cells) (hFb : F b) : StRow F w2 (some ⟨b, 0, none⟩) [g] :=
  ⟨[x], rfl, ⟨by simp [v8_len], fun _ => ⟨b, 0, rfl, fun j u hu => by rw [Nat.zero_add]; exact hc j u (by simpa using hu)⟩⟩,
    fun b' off e _ => by injection e with e; injection e with e1; subst e1; exact hFb,
    fun i h1 h2 => by
      have : i = 0 := by simp at h1; omega
      subst this
      exact h.keep (fun _ hp _ => hb.cell hp) (fun b hb' _ => hF b hb')⟩
theorem totGs_one (g : St) : totGs [g] = totG g + 1 := by rw [totGs, totGs]; omega
set_option maxHeartbeats 800000 in
theorem impl_StmtOk (g : St) (x : V8) (w : World) (hg : StIs AnyB w x g) (htot : totGs [g] ≤ 1048577) :
    Calls Tryd.prog 68 #[.agg #[.int .i64 x.k, .string x.s, .int .i64 x.tk, .int .i64 x.tn, .string x.ts, .slice x.tA x.tm x.tc, .slice x.bA x.bm x.bc, .slice x.eA x.em x.ec]] w fun e w' => e = .returned (.bool (fitGs 6 60 [g])) ∧ Below w.heap.size w w' := by
  have HG := Lib.hid hg
  clear hg
  go_enter Tryd.func68, Tryd.ntmps68
  go_wp2_with fail
  refine (impl_stmtsFit [g] (some ⟨w.heap.size + 1 + 1, 0, none⟩) 1 6 60 (w.heap.size + 1) _ (stRow1 HG.out (by repeat' (first | exact Below.refl _ _ | exact Nat.le_refl _ | (refine Below.alloc ?_ ?_ _) | (refine Below.setCell ?_ ?_ _) | (refine Below.drew ?_) | (refine below_drewN ?_ _) | assumption | (simp; done) | (simp; omega))) (fun b hb => by omega) (BoxB.lit (by simp)) (by show w.heap.size + 1 + 1 ≠ w.heap.size + 1; omega)) (by simp) (by simp [maxLen]) htot (by omega) (by omega) ?_).mono ?_
  · refine room_alloc ?_ _
    have := heap_alloc_new (w.alloc (.cells #[.int .i64 x.k, .string x.s, .int .i64 x.tk, .int .i64 x.tn, .string x.ts, .slice x.tA x.tm x.tc, .slice x.bA x.bm x.bc, .slice x.eA x.em x.ec] 104)) (.cells #[.int .i64 60] 3)
    rw [show (w.alloc (.cells #[.int .i64 x.k, .string x.s, .int .i64 x.tk, .int .i64 x.tn, .string x.ts, .slice x.tA x.tm x.tc, .slice x.bA x.bm x.bc, .slice x.eA x.em x.ec] 104)).heap.size = w.heap.size + 1 from by simp] at this
    exact this
  rintro e w1 ⟨rfl, k1, _⟩
  have B1 : Hid (Below w.heap.size w w1) := Lib.hid (Below.trans (by repeat' (first | exact Below.refl _ _ | exact Nat.le_refl _ | (refine Below.alloc ?_ ?_ _) | (refine Below.setCell ?_ ?_ _) | (refine Below.drew ?_) | (refine below_drewN ?_ _) | assumption | (simp; done) | (simp; omega))) (k1.below (by simp; omega) (fun b hb => by omega)))
  clear k1
  go_wp2_with fail
  go_ret
  exact ⟨rfl, B1.out⟩

theorem inS_yes {a b c : Int} (h1 : b ≤ a) (h2 : a ≤ c) : inB a b c = true := by unfold inB; rw [decide_eq_true h1, decide_eq_true h2]; rfl
theorem inS_no {a b c : Int} (h : ¬ (b ≤ a ∧ a ≤ c)) : inB a b c = false := by
  unfold inB
  by_cases h1 : b ≤ a
  · rw [decide_no (by omega : ¬ a ≤ c), Bool.and_false]
  · rw [decide_no h1]; rfl
noncomputable def okGs : List St → Bool
  | [] => true
  | g :: r => fitGs 6 60 [g] && okGs r
theorem okGs_append (l r : List St) : okGs (l ++ r) = (okGs l && okGs r) := by
  induction l with
  | nil => simp [okGs]
  | cons t l ih => rw [List.cons_append, okGs, okGs, ih, Bool.and_assoc]
theorem okGs_take (l : List St) (j : Nat) (h : j < l.length) : okGs (l.take (j + 1)) = (okGs (l.take j) && fitGs 6 60 [l[j]]) := by
  have e : l.take (j + 1) = l.take j ++ [l[j]] := List.take_succ_eq_append_getElem h
  rw [e, okGs_append]; simp [okGs]
theorem okGs_no (l : List St) (j : Nat) (h : j < l.length) (hn : fitGs 6 60 [l[j]] = false) : okGs l = false := by
  have e : okGs l = (okGs (l.take j) && okGs (l.drop j)) := by rw [← okGs_append, List.take_append_drop]
  rw [e, List.drop_eq_getElem_cons h, okGs, hn]; simp
theorem okGs_right {l : List St} (h : okGs l = true) : rightGs 6 l = true := by
  induction l with
  | nil => simp [rightGs]
  | cons g r ih =>
    rw [okGs, Bool.and_eq_true] at h
    have h1 := (fit_inv h.1).1
    rw [rightGs, rightGs, Bool.and_true] at h1
    rw [rightGs, h1, ih h.2]; rfl
noncomputable def textR (l : List St) (a : Int) : List UInt8 := if (inB a 0 20 && okGs l) = true then txtGs a.toNat l else []
theorem textR_no1 {l : List St} {a : Int} (h : inB a 0 20 = false) : textR l a = [] := by unfold textR; rw [h]; rfl
theorem textR_no2 {l : List St} {a : Int} (h : okGs l = false) : textR l a = [] := by unfold textR; rw [h, Bool.and_false]; rfl
theorem textR_yes {l : List St} {n : Nat} (hn : n ≤ 20) (h : okGs l = true) : textR l (n : Int) = txtGs n l := by
  unfold textR
  rw [h, inS_yes (by omega) (by omega), Int.toNat_natCast]; rfl
set_option maxHeartbeats 1600000 in
theorem impl_StmtsText (l : List St) (A : Option Addr) (c : Nat) (w : World) (row : StRow AnyB w A l) (hl : l.length ≤ c) (hc : c ≤ maxLen) (htot : totGs l ≤ 1048576) (a : Int) (tab : TabW w) :
    Calls Tryd.prog 20 #[.slice A l.length c, .int .i64 a] w fun e w' => e = .returned (.string ⟨(textR l a).toArray⟩) ∧ Below w.heap.size w w' := by
  have RW := Lib.hid row
  have TB := Lib.hid tab
  unfold maxLen at hc
  clear row tab
  by_cases ha0 : a < 0
  · have F := Lib.hid (textR_no1 (l := l) (a := a) (inS_no (by omega)))
    go_enter Tryd.func20, Tryd.ntmps20
    go_wp2_with fail
    go_ret
    exact ⟨by rw [F.out]; rfl, (by repeat' (first | exact Below.refl _ _ | exact Nat.le_refl _ | (refine Below.alloc ?_ ?_ _) | (refine Below.setCell ?_ ?_ _) | (refine Below.drew ?_) | (refine below_drewN ?_ _) | assumption | (simp; done) | (simp; omega)))⟩
  by_cases ha1 : 20 < a
  · have F := Lib.hid (textR_no1 (l := l) (a := a) (inS_no (by omega)))
    go_enter Tryd.func20, Tryd.ntmps20
    go_wp2_with fail
    go_ret
    exact ⟨by rw [F.out]; rfl, (by repeat' (first | exact Below.refl _ _ | exact Nat.le_refl _ | (refine Below.alloc ?_ ?_ _) | (refine Below.setCell ?_ ?_ _) | (refine Below.drew ?_) | (refine below_drewN ?_ _) | assumption | (simp; done) | (simp; omega)))⟩
  obtain ⟨ah, rfl⟩ : ∃ n : Nat, a = (n : Int) := ⟨a.toNat, by omega⟩
  have hsn : snodess l ≤ 1048576 := Nat.le_trans (snodess_tot l) htot
  go_enter Tryd.func20, Tryd.ntmps20
  go_wp2_with fail
  go_loopw [16] (fun i wr => ∃ j : Nat, j ≤ l.length ∧ i = .int .i64 j ∧ Below w.heap.size w wr ∧ Hid (okGs (l.take j) = true)) (fun i _ => l.length - (intOf i).toNat)
  case atStart => exact ⟨0, Nat.zero_le _, rfl, Below.refl _ _, Lib.hid (by simp [okGs])⟩
  case round =>
    obtain ⟨j, hj, rfl, hb, HT⟩ := hrel
    have HB := Lib.hid hb
    clear hb
    by_cases hlt : j < l.length
    case neg =>
      have hok : okGs l = true := by have := HT.out; rwa [List.take_of_length_le (by omega)] at this
      have F := Lib.hid (textR_yes (n := ah) (by omega) hok)
      have HR := Lib.hid (okGs_right hok)
      have OB := Lib.hid (BldB.new wr)
      clear hok
      go_wp2_with fail
      refine (impl_writeStmts l 6 ah A c wr _ wr.heap.size [] (RW.out.belowA HB.out) hl (by unfold maxLen; omega) HR.out (by omega) OB.out (by simp only [List.length_nil]; omega) (TB.out.below HB.out)).mono ?_
      rintro e w2 ⟨rfl, o2, _⟩
      have O2 : Hid (BldB wr w2 wr.heap.size (txtGs ah l)) := Lib.hid o2
      have B2 := Lib.hid (below_then HB.out o2.own)
      have hsz := o2.own.size
      clear o2
      go_wp2_with fail
      refine (Tryd.Builder_String_any wr.heap.size wr.heap.size (txtGs ah l) _ O2.out.is hsz).mono ?_
      rintro e w3 ⟨rfl, b3⟩
      have B3 : Hid (Below w.heap.size w w3) := Lib.hid (B2.out.trans (b3.mono HB.out.size))
      clear b3
      generalize hX : txtGs ah l = X at *
      go_wp2_with fail
      go_ret
      exact ⟨by rw [F.out]; rfl, B3.out⟩
    obtain ⟨b, off, x, rfl, _, ⟨d0, d1, d2, d3, d4, d5, d6, d7⟩, hg⟩ := rd_stmt (RW.out.belowA HB.out) hlt
    have HG := Lib.hid hg
    have h0k : (0 : Int) ≤ (j : Int) := by omega
    have HNO := Lib.hid (okGs_no l j hlt)
    have HTK := Lib.hid (okGs_take l j hlt)
    have htj : totGs [l[j]] ≤ 1048577 := by have := totGs_lt (List.getElem_mem hlt); rw [totGs_one]; omega
    clear hg
    cases hf : fitGs 6 60 [l[j]] with
    | false =>
      have F := Lib.hid (textR_no2 (a := (ah : Int)) (HNO.out hf))
      go_wp2_with fail
      refine (impl_StmtOk l[j] x _ (HG.out.belowA (by repeat' (first | exact Below.refl _ _ | exact Nat.le_refl _ | (refine Below.alloc ?_ ?_ _) | (refine Below.setCell ?_ ?_ _) | (refine Below.drew ?_) | (refine below_drewN ?_ _) | assumption | (simp; done) | (simp; omega)))) htj).mono ?_
      rintro e w1 ⟨rfl, b1⟩
      have B1 := Lib.hid (below_then HB.out (Below.trans (Below.alloc (Below.refl _ _) (Nat.le_refl _) _) (b1.mono (by simp))))
      rw [hf]
      clear b1
      go_wp2_with fail
      go_ret
      exact ⟨by rw [F.out]; rfl, B1.out⟩
    | true =>
      have T : Hid (okGs (l.take (j + 1)) = true) := Lib.hid (by rw [HTK.out, HT.out, hf]; rfl)
      go_wp2_with fail
      refine (impl_StmtOk l[j] x _ (HG.out.belowA (by repeat' (first | exact Below.refl _ _ | exact Nat.le_refl _ | (refine Below.alloc ?_ ?_ _) | (refine Below.setCell ?_ ?_ _) | (refine Below.drew ?_) | (refine below_drewN ?_ _) | assumption | (simp; done) | (simp; omega)))) htj).mono ?_
      rintro e w1 ⟨rfl, b1⟩
      have B1 := Lib.hid (below_then HB.out (Below.trans (Below.alloc (Below.refl _ _) (Nat.le_refl _) _) (b1.mono (by simp))))
      rw [hf]
      clear b1
      go_wp2_with fail
      go_roundw
      case rel => exact ⟨j + 1, by omega, by go_num, B1.out, Lib.hid T.out⟩
      case measure => simp [intOf]; omega
end Go.Proofs.YtefcdpkficojgaaDoor
