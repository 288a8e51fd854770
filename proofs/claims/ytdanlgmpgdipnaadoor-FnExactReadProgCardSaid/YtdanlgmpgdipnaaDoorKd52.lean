/- Several texts in one: PgHeld, RtPLaw. -/
import Derived.Test.YtdanlgmpgdipnaaDoorKd39
import Derived.Test.YtdanlgmpgdipnaaDoorKd51
import Derived.Test.YtdanlgmpgdipnaaDoorKd31
import Derived.Test.YtdanlgmpgdipnaaDoorKd13
namespace Go.Proofs.YtdanlgmpgdipnaaDoor
open Go.RowKit
set_option linter.unusedVariables false


def mkPrs (k : Nat) : List Pr → List Pr
  | [] => []
  | p :: r => ⟨markT k, mkGs (k + 1) p.body⟩ :: mkPrs (k + (1 + smarkss p.body)) r
theorem mkPrs_length (k : Nat) (l : List Pr) : (mkPrs k l).length = l.length := by
  induction l generalizing k with
  | nil => rfl
  | cons p r ih => rw [mkPrs, List.length_cons, List.length_cons, ih]
theorem mkPrs_get (k : Nat) (l : List Pr) {m : Nat} (h : m < l.length) : (mkPrs k l)[m]? = some ⟨markT (k + pmarks (l.take m)), mkGs (k + pmarks (l.take m) + 1) l[m].body⟩ := by
  induction l generalizing k m with
  | nil => simp at h
  | cons p r ih =>
    cases m with
    | zero => simp [mkPrs, pmarks]
    | succ m =>
      have h' : m < r.length := by simpa using h
      rw [mkPrs, List.getElem?_cons_succ, ih _ h', List.take_succ_cons, pmarks]
      simp [Nat.add_assoc]
def mkPg (k : Nat) (p : Pg) : Pg := ⟨marksS p.globals.length k, marksS p.locks.length (k + p.globals.length), mkPrs (k + p.globals.length + p.locks.length) p.procs⟩
set_option maxHeartbeats 800000 in
theorem laws_markStrRowH (ss : List ByteArray) (A : Option Addr) (c k : Nat) (w : World) (F : Nat → Prop) (row : StrRowO w F A ss) (hF : ∀ b, F b → b < w.heap.size) (hl : ss.length ≤ c) (hc : c ≤ maxLen) (h0 : 0 < k) (h1 : k + ss.length ≤ 100000000) :
    Calls Tryd.prog 21 #[.slice A ss.length c, .int .i64 (k : Int)] w fun e w' => e = .returned (.int .i64 ((k + ss.length : Nat) : Int)) ∧ StrRowO w' F A (marksS ss.length k) ∧ Keep (fun b => ¬ F b) w w' := by
  unfold maxLen at hc
  have RW := Lib.hid row
  have HF := Lib.hid hF
  clear row hF
  go_enter Tryd.func21, Tryd.ntmps21
  go_wp2_with fail
  go_loopw [1, 5] (fun n i wr => ∃ m : Nat, m ≤ ss.length ∧ i = .int .i64 m ∧ n = .int .i64 ((k + m : Nat) : Int) ∧ Hid (∃ l : List ByteArray, l.length = ss.length ∧ (∀ i, i < m → l[i]? = (marksS ss.length k)[i]?) ∧ StrRowO wr F A l ∧ Keep (fun b => ¬ F b) w wr)) (fun _ i _ => ss.length - (intOf i).toNat)
  case atStart => exact ⟨0, Nat.zero_le _, rfl, rfl, Lib.hid ⟨ss, rfl, fun i h => absurd h (by omega), RW.out, Keep.refl _ _⟩⟩
  case round =>
    obtain ⟨m, hm, rfl, rfl, HR⟩ := hrel
    obtain ⟨l, hll, hdone, hrow, hkeep⟩ := HR.out
    have HD := Lib.hid hdone
    clear hdone
    by_cases hlt : m < ss.length
    · obtain ⟨b, off, G, cells, rfl, hcl, hcell, hP, hFb, hpl, hGF, hback⟩ := RowOf.focus (P := StrP) StrP.keepP hrow (i := m) (by omega)
      have d0 : wr.cell? ⟨b, off + m, none⟩ = some (.string (l[m]'(by omega))) := by
        have := hcell 0 (.string (l[m]'(by omega))) (by rw [hP.1]; rfl)
        simpa using this
      have hlb := cell_lt d0
      have HB := Lib.hid hback
      have HPL := Lib.hid hpl
      have HFB := Lib.hid hFb
      have KP := Lib.hid hkeep
      have HL := Lib.hid hll
      have h0m : (0 : Int) ≤ (m : Int) := by omega
      have EC : Hid ((k : Int) + (m : Int) = ((k + m : Nat) : Int)) := Lib.hid (by omega)
      clear hrow hkeep hcl hP hGF hback hpl hFb hcell HR
      go_wp2_with fail
      rw [EC.out]
      refine (laws_markText (k + m) _ (by omega) (by omega)).mono ?_
      rintro e w1 ⟨rfl, b1⟩
      have P1 := Lib.hid (plain_below HPL.out b1)
      have e0 := cell_keep b1 d0
      have f0 := plain_free P1.out (off + m)
      have E0 := Lib.hid e0
      have c1 : Hid (∀ o, w1.cell? ⟨b, o, none⟩ = wr.cell? ⟨b, o, none⟩) := Lib.hid fun o => b1.cell (p := ⟨b, o, none⟩) hlb
      have hz1 := b1.size
      have RN : Hid (∃ l : List ByteArray, l.length = ss.length ∧ (∀ i, i < m + 1 → l[i]? = (marksS ss.length k)[i]?) ∧ StrRowO (w1.setCell ⟨b, off + m, none⟩ (.string (markT (k + m)))) F (some ⟨b, off, none⟩) l ∧ Keep (fun b => ¬ F b) w (w1.setCell ⟨b, off + m, none⟩ (.string (markT (k + m))))) := by
        refine Lib.hid ⟨l.set m (markT (k + m)), by rw [List.length_set]; exact HL.out, fun i hi => ?_, HB.out _ [.string (markT (k + m))] _ rfl (plain_set P1.out b (off + m) _) (fun r u hu => ?_) (fun o ho => ?_) (fun y hy hne _ => ?_) ⟨rfl, markT_le (by omega)⟩, ?_⟩
        · by_cases him : i = m
          · subst him
            rw [List.getElem?_set_self (by have := HL.out; omega), marksS_get _ _ _ hlt]
          · rw [List.getElem?_set_ne (by omega)]; exact HD.out i (by omega)
        · match r, hu with
          | 0, hu => injection hu with hu; subst hu; simpa using World.cell?_setCell_same w1 ⟨b, off + m, none⟩ _ E0.out
          | r + 1, hu => simp at hu
        · rw [World.cell?_setCell_other _ _ _ _ (fun e => by injection e with _ e; omega), c1.out]
        · rw [Below.heap_setCell _ _ _ _ hne]
          exact b1.block y (Nat.lt_of_lt_of_le (HF.out y hy) KP.out.size)
        · exact (KP.out.trans (Keep.of_below (S := fun y => ¬ F y) b1) (fun _ _ h => h)).setCell (p := ⟨b, off + m, none⟩) (fun h => h HFB.out) _
      clear b1
      go_wp2_with fail
      go_roundw
      case rel => exact ⟨m + 1, by omega, by go_num, by go_num, RN⟩
      case measure => simp [intOf]; omega
    · have HK := Lib.hid hkeep
      have HE : Hid (StrRowO wr F A (marksS ss.length k)) := Lib.hid (by
        have e : l = marksS ss.length k := List.ext_getElem? fun i => by
          by_cases hi : i < m
          · exact HD.out i hi
          · rw [List.getElem?_eq_none (by omega), List.getElem?_eq_none (by rw [marksS_length]; omega)]
        rw [← e]; exact hrow)
      clear hrow hkeep HR
      go_wp2_with fail
      go_ret
      exact ⟨ret_int (by omega), HE.out, HK.out⟩
set_option maxHeartbeats 1600000 in
theorem laws_markProcSH (l : List Pr) (A : Option Addr) (c k : Nat) (w : World) (F : Nat → Prop) (row : PrRowO w F A l) (hF : ∀ b, F b → b < w.heap.size) (hl : l.length ≤ c) (hc : c ≤ maxLen) (h0 : 0 < k) (h1 : k + pmarks l ≤ 100000000) :
    Calls Tryd.prog 22 #[.slice A l.length c, .int .i64 (k : Int)] w fun e w' => e = .returned (.int .i64 ((k + pmarks l : Nat) : Int)) ∧ PrRowO w' F A (mkPrs k l) ∧ Keep (fun b => ¬ F b) w w' := by
  unfold maxLen at hc
  have RW := Lib.hid row
  have HF := Lib.hid hF
  clear row hF
  go_enter Tryd.func22, Tryd.ntmps22
  go_wp2_with fail
  go_loopw [1, 5] (fun n i wr => ∃ m : Nat, m ≤ l.length ∧ i = .int .i64 m ∧ n = .int .i64 ((k + pmarks (l.take m) : Nat) : Int) ∧ Hid (∃ l' : List Pr, l'.length = l.length ∧ (∀ i, i < m → l'[i]? = (mkPrs k l)[i]?) ∧ (∀ i, m ≤ i → l'[i]? = l[i]?) ∧ PrRowO wr F A l' ∧ Keep (fun b => ¬ F b) w wr)) (fun _ i _ => l.length - (intOf i).toNat)
  case atStart => exact ⟨0, Nat.zero_le _, rfl, by simp [pmarks], Lib.hid ⟨l, rfl, fun i h => absurd h (by omega), fun _ _ => rfl, RW.out, Keep.refl _ _⟩⟩
  case round =>
    obtain ⟨m, hm, rfl, rfl, HR⟩ := hrel
    obtain ⟨l', hll, hdone, hsame, hrow, hkeep⟩ := HR.out
    have HD := Lib.hid hdone
    clear hdone
    by_cases hlt : m < l.length
    · have hlt' : m < l'.length := by omega
      have hel : l'[m] = l[m] := by
        have := hsame m (Nat.le_refl _)
        rw [List.getElem?_eq_getElem hlt', List.getElem?_eq_getElem hlt] at this
        injection this
      obtain ⟨b, off, G, cells, rfl, hcl, hcell, ⟨x, rfl, hnm, hxm, _, hbc, hcm, hbody⟩, hFb, hpl, hGF, hback⟩ := RowOf.focus (P := PrP) PrP.keepP hrow hlt'
      rw [hel] at hnm hxm hbc hbody
      have d0 := hcell 0 _ rfl
      have d1 := hcell 1 _ rfl
      simp only [Nat.add_zero] at d0
      rw [hxm] at d1
      have hlb := cell_lt d0
      have HB := Lib.hid hback
      have HPL := Lib.hid hpl
      have HFB := Lib.hid hFb
      have HGF := Lib.hid hGF
      have KP := Lib.hid hkeep
      have HL := Lib.hid hll
      have HS := Lib.hid hsame
      have BODY := Lib.hid hbody
      have hpt := pmarks_take l m hlt
      have MG := Lib.hid (mkPrs_get k l hlt)
      have hpl2 := pmarks_take_le l (m + 1)
      have HN : Hid (pmarks (l.take (m + 1)) = pmarks (l.take m) + (1 + smarkss l[m].body)) := Lib.hid hpt
      have h0m : (0 : Int) ≤ (m : Int) := by omega
      have hbd : k + pmarks (l.take m) + 1 + smarkss l[m].body ≤ 100000000 := by omega
      generalize hKK : k + pmarks (l.take m) = K at *
      have HK := Lib.hid hKK
      have hK0 : 0 < K := by omega
      clear hKK hrow hkeep hcl hGF hback hpl hFb hcell HR hsame hnm hxm hbody hpt hpl2 hel
      go_wp2_with fail
      refine (laws_markText K _ (by omega) (by omega)).mono ?_
      rintro e w1 ⟨rfl, b1⟩
      have P1 := Lib.hid (plain_below HPL.out b1)
      have e0 := cell_keep b1 d0
      have e1 := cell_keep b1 d1
      have f0 := plain_free P1.out (off + m * 2)
      have E0 := Lib.hid e0
      have E1 := Lib.hid e1
      have c1 : Hid (∀ o, w1.cell? ⟨b, o, none⟩ = wr.cell? ⟨b, o, none⟩) := Lib.hid fun o => b1.cell (p := ⟨b, o, none⟩) hlb
      have B1 := Lib.hid b1
      have hz1 := b1.size
      clear b1 d0 d1
      go_wp2_with fail
      generalize hW2 : w1.setCell ⟨b, off + m * 2, none⟩ (.string (markT K)) = W2 at *
      have HW2 := Lib.hid hW2
      have hz2 : W2.heap.size = w1.heap.size := by rw [← hW2]; simp
      clear hW2
      have keep2 : Hid (∀ y, G y → W2.heap[y]? = wr.heap[y]?) := Lib.hid fun y hy => by
        rw [← HW2.out, Below.heap_setCell _ _ _ _ (HGF.out y hy).2]
        exact B1.out.block y (Nat.lt_of_lt_of_le (HF.out y (HGF.out y hy).1) KP.out.size)
      have hszG : Hid (∀ y, G y → y < W2.heap.size) := Lib.hid fun y hy => by
        have := HF.out y (HGF.out y hy).1
        have := KP.out.size; omega
      have R2 := Lib.hid (BODY.out.keep keep2.out)
      have g1 : W2.cell? ⟨b, off + m * 2 + 1, none⟩ = some (.slice x.A l[m].body.length x.c) := by rw [← HW2.out, World.cell?_setCell_other _ _ _ _ (by simp)]; exact E1.out
      have G1 := Lib.hid g1
      clear e0 e1 f0
      first | done | skip
      refine (laws_markStmtS l[m].body (K + 1) x.A x.c W2 G R2.out hszG.out hbc hcm (by omega) (by omega)).mono ?_
      rintro e w3 ⟨rfl, r3, k3⟩
      have hlb2 : b < W2.heap.size := by omega
      have nGb : ¬ G b := fun h => (HGF.out b h).2 rfl
      have c3 : Hid (∀ o, w3.cell? ⟨b, o, none⟩ = W2.cell? ⟨b, o, none⟩) := Lib.hid fun o => k3.cell (p := ⟨b, o, none⟩) hlb2 nGb
      have RN : Hid (∃ l' : List Pr, l'.length = l.length ∧ (∀ i, i < m + 1 → l'[i]? = (mkPrs k l)[i]?) ∧ (∀ i, m + 1 ≤ i → l'[i]? = l[i]?) ∧ PrRowO w3 F (some ⟨b, off, none⟩) l' ∧ Keep (fun b => ¬ F b) w w3) := by
        refine Lib.hid ⟨l'.set m ⟨markT K, mkGs (K + 1) l[m].body⟩, by rw [List.length_set]; exact HL.out, fun i hi => ?_, fun i hi => ?_, HB.out _ (V2.cells ⟨markT K, x.A, l[m].body.length, x.c⟩) _ rfl ?_ (fun r u hu => ?_) (fun o ho => ?_) (fun y hy hne hG => ?_) ?_, ?_⟩
        · by_cases him : i = m
          · subst him
            rw [List.getElem?_set_self (by have := HL.out; omega), MG.out]
          · rw [List.getElem?_set_ne (by omega)]; exact HD.out i (by omega)
        · rw [List.getElem?_set_ne (by omega)]; exact HS.out i (by omega)
        · obtain ⟨cur, e, hb⟩ := plain_set P1.out b (off + m * 2) (.string (markT K))
          rw [HW2.out] at hb
          exact ⟨cur, e, (k3.block b hlb2 nGb).trans hb⟩
        · rw [c3.out]
          match r, hu with
          | 0, hu => injection hu with hu; subst hu; rw [← HW2.out]; simpa using World.cell?_setCell_same w1 ⟨b, off + m * 2, none⟩ _ E0.out
          | 1, hu => injection hu with hu; subst hu; exact G1.out
          | r + 2, hu => simp [V2.cells] at hu
        · rw [c3.out, ← HW2.out, World.cell?_setCell_other _ _ _ _ (fun e => by injection e with _ e; omega), c1.out]
        · have hyl := Nat.lt_of_lt_of_le (HF.out y hy) KP.out.size
          rw [k3.block y (by omega) hG, ← HW2.out, Below.heap_setCell _ _ _ _ hne]
          exact B1.out.block y hyl
        · exact ⟨_, rfl, rfl, by simp [mkGs_length], markT_le (by omega), by rw [mkGs_length]; exact hbc, hcm, r3⟩
        · have q1 := (KP.out.trans (Keep.of_below (S := fun y => ¬ F y) B1.out) (fun _ _ h => h)).setCell (p := ⟨b, off + m * 2, none⟩) (fun h => h HFB.out) (.string (markT K))
          rw [HW2.out] at q1
          exact q1.trans k3 (fun y _ h hg => h (HGF.out y hg).1)
      clear r3 k3 g1
      go_wp2_with fail
      go_roundw
      case rel => exact ⟨m + 1, by omega, by go_num, by rw [HN.out]; exact congrArg (Value.int .i64) (by have := HK.out; omega), RN⟩
      case measure => simp [intOf]; omega
    · have HK := Lib.hid hkeep
      have HE : Hid (PrRowO wr F A (mkPrs k l)) := Lib.hid (by
        have e : l' = mkPrs k l := List.ext_getElem? fun i => by
          by_cases hi : i < m
          · exact HD.out i hi
          · rw [List.getElem?_eq_none (by omega), List.getElem?_eq_none (by rw [mkPrs_length]; omega)]
        rw [← e]; exact hrow)
      clear hrow hkeep HR hsame
      go_wp2_with fail
      go_ret
      exact ⟨ret_int (by rw [List.take_of_length_le (by omega)]), HE.out, HK.out⟩
set_option maxHeartbeats 800000 in
theorem laws_markProgH (p : Pg) (x : V3) (k : Nat) (w : World) (F : Nat → Prop) (hp : PgO w F x p) (hF : ∀ b, F b → b < w.heap.size) (h0 : 0 < k) (h1 : k + markZ p ≤ 100000000) :
    Calls Tryd.prog 8 #[x.val p, .int .i64 (k : Int)] w fun e w' => e = .returned (.int .i64 ((k + markZ p : Nat) : Int)) ∧ PgO w' F x (mkPg k p) ∧ Keep (fun b => ¬ F b) w w' := by
  obtain ⟨G, L, P, s1, s2, s3, d1, d2, d3, a1, a2, a3, b1, b2, b3, c1, c2, c3⟩ := hp
  obtain ⟨gA, gc, lA, lc, pA, pc⟩ := x
  simp only at a1 a2 a3 b1 b2 b3 c1 c2 c3
  unfold V3.val
  simp only
  have HF := Lib.hid hF
  have S1 := Lib.hid s1
  have S2 := Lib.hid s2
  have S3 := Lib.hid s3
  have D1 := Lib.hid d1
  have D2 := Lib.hid d2
  have D3 := Lib.hid d3
  have RG := Lib.hid a3
  have RL := Lib.hid b3
  have RP := Lib.hid c3
  have hz : p.globals.length + p.locks.length + pmarks p.procs = markZ p := rfl
  have HZ := Lib.hid hz
  have hb : k + (p.globals.length + p.locks.length + pmarks p.procs) ≤ 100000000 := h1
  clear hF s1 s2 s3 d1 d2 d3 a3 b3 c3 hz h1
  go_enter Tryd.func8, Tryd.ntmps8
  go_wp2_with fail
  have B0 : Hid (Below w.heap.size w (w.alloc (.cells #[.slice gA p.globals.length gc, .slice lA p.locks.length lc, .slice pA p.procs.length pc] 25))) := Lib.hid (by repeat' (first | exact Below.refl _ _ | exact Nat.le_refl _ | (refine Below.alloc ?_ ?_ _) | (refine Below.setCell ?_ ?_ _) | (refine Below.drew ?_) | (refine below_drewN ?_ _) | assumption | (simp; done) | (simp; omega)))
  refine (laws_markStrRowH p.globals gA gc k _ G (RG.out.keep fun b hb => B0.out.block b (HF.out b (S1.out b hb))) (fun b hb => by have := HF.out b (S1.out b hb); simp; omega) a1 a2 h0 (by omega)).mono ?_
  rintro e w1 ⟨rfl, m1, k1⟩
  have M1 := Lib.hid m1
  clear m1
  have K1 := Lib.hid k1
  have nb : ∀ y, F y → y ≠ w.heap.size := fun y hy e => by have := HF.out y hy; omega
  have NB := Lib.hid nb
  have BX1 : Hid (BoxB w1 w.heap.size [.slice gA p.globals.length gc, .slice lA p.locks.length lc, .slice pA p.procs.length pc]) := Lib.hid (BoxB.keepS (BoxB.lit rfl) k1 (fun h => NB.out _ (S1.out _ h) rfl))
  have p1 := BX1.out 1 _ rfl
  have hz1 : w.heap.size < w1.heap.size := by have := k1.size; simp at this; omega
  have RL1 := Lib.hid (RL.out.keep (w' := w1) fun b hb => (k1.block b (by have := HF.out b (S2.out b hb); simp; omega) (fun h => D1.out b h hb)).trans (B0.out.block b (HF.out b (S2.out b hb))))
  have RP1 := Lib.hid (RP.out.keep (w' := w1) fun b hb => (k1.block b (by have := HF.out b (S3.out b hb); simp; omega) (fun h => D2.out b h hb)).trans (B0.out.block b (HF.out b (S3.out b hb))))
  clear k1 nb
  go_wp2_with fail
  refine (laws_markStrRowH p.locks lA lc (k + p.globals.length) _ L RL1.out (fun b hb => by have := HF.out b (S2.out b hb); omega) b1 b2 (by omega) (by omega)).mono ?_
  rintro e w2 ⟨rfl, m2, k2⟩
  have M2 := Lib.hid m2
  clear m2
  have K2 := Lib.hid k2
  have BX2 := Lib.hid (BX1.out.keepS k2 (fun h => NB.out _ (S2.out _ h) rfl))
  have p2 := BX2.out 2 _ rfl
  have hz2 : w.heap.size < w2.heap.size := by have := k2.size; omega
  have RP2 := Lib.hid (RP1.out.keep (w' := w2) fun b hb => k2.block b (by have := HF.out b (S3.out b hb); omega) (fun h => D3.out b h hb))
  clear k2 p1
  go_wp2_with fail
  refine (laws_markProcSH p.procs pA pc (k + p.globals.length + p.locks.length) _ P RP2.out (fun b hb => by have := HF.out b (S3.out b hb); omega) c1 c2 (by omega) (by omega)).mono ?_
  rintro e w3 ⟨rfl, m3, k3⟩
  have M3 := Lib.hid m3
  clear m3
  have KN : Hid (Keep (fun b => ¬ F b) w w3) := Lib.hid ((((Keep.of_below (S := fun b => ¬ F b) B0.out).trans K1.out (fun y _ h hg => h (S1.out y hg))).trans K2.out (fun y _ h hg => h (S2.out y hg))).trans k3 (fun y _ h hg => h (S3.out y hg)))
  have MG1 : Hid (StrRowO w3 G gA (marksS p.globals.length k)) := Lib.hid (M1.out.keep fun b hb => by
    have h1 := HF.out b (S1.out b hb)
    have h2 := K1.out.size
    have h3 := K2.out.size
    simp only [World.size_alloc] at h2
    exact (k3.block b (by omega) (fun h => D2.out b hb h)).trans (K2.out.block b (by omega) (fun h => D1.out b hb h)))
  have ML1 : Hid (StrRowO w3 L lA (marksS p.locks.length (k + p.globals.length))) := Lib.hid (M2.out.keep fun b hb => by
    have h1 := HF.out b (S2.out b hb)
    have h2 := K1.out.size
    have h3 := K2.out.size
    simp only [World.size_alloc] at h2
    exact k3.block b (by omega) (fun h => D3.out b hb h))
  have PG : Hid (PgO w3 F ⟨gA, gc, lA, lc, pA, pc⟩ (mkPg k p)) := Lib.hid ⟨G, L, P, S1.out, S2.out, S3.out, D1.out, D2.out, D3.out, by rw [mkPg, marksS_length]; exact a1, a2, MG1.out, by rw [mkPg, marksS_length]; exact b1, b2, ML1.out, by rw [mkPg, mkPrs_length]; exact c1, c2, M3.out⟩
  clear k3 p2
  go_wp2_with fail
  go_ret
  exact ⟨ret_int (by rw [← HZ.out]; omega), PG.out, KN.out⟩
set_option maxHeartbeats 2000000 in
set_option maxRecDepth 100000 in
theorem laws_heldProcS (l : List Pr) (A : Option Addr) (c k : Nat) (w : World) (row : PrRow w A (mkPrs k l)) (hl : l.length ≤ c) (hc : c ≤ maxLen) (h0 : 0 < k) (h1 : k + pmarks l ≤ 100000000) :
    Calls Tryd.prog 24 #[.slice A l.length c, .int .i64 (k : Int)] w fun e w' => e = .returned (.int .i64 ((k + pmarks l : Nat) : Int)) ∧ Below w.heap.size w w' := by
  unfold maxLen at hc
  have RW := Lib.hid row
  clear row
  go_enter Tryd.func24, Tryd.ntmps24
  go_wp2_with fail
  go_loopw [1, 5] (fun n i wr => ∃ m : Nat, m ≤ l.length ∧ i = .int .i64 m ∧ n = .int .i64 ((k + pmarks (l.take m) : Nat) : Int) ∧ Below w.heap.size w wr) (fun _ i _ => l.length - (intOf i).toNat)
  case atStart => exact ⟨0, Nat.zero_le _, rfl, by simp [pmarks], Below.refl _ _⟩
  case round =>
    obtain ⟨m, hm, rfl, rfl, hb⟩ := hrel
    have HB := Lib.hid hb
    clear hb
    by_cases hlt : m < l.length
    · have hjm : m < (mkPrs k l).length := by rw [mkPrs_length]; exact hlt
      obtain ⟨b, off, x, rfl, d0, d1, hp⟩ := rd_proc (RW.out.belowA HB.out) hjm
      have hg := mkPrs_get k l hlt
      rw [List.getElem?_eq_getElem hjm] at hg
      injection hg with hg
      rw [hg] at hp
      obtain ⟨xs, xA, xm, xc⟩ := x
      obtain ⟨q1, q2, q3, q4, q5, q6⟩ := hp
      simp only [mkGs_length] at q1 q2 q3 q4 q5 q6 d0 d1
      subst q1 q2
      have hpt := pmarks_take l m hlt
      have hpl2 := pmarks_take_le l (m + 1)
      have HN : Hid (pmarks (l.take (m + 1)) = pmarks (l.take m) + (1 + smarkss l[m].body)) := Lib.hid hpt
      have hbd : k + pmarks (l.take m) + 1 + smarkss l[m].body ≤ 100000000 := by omega
      generalize hK : k + pmarks (l.take m) = K at *
      have HK := Lib.hid hK
      have RB := Lib.hid q6
      have hK0 : 0 < K := by omega
      have h0k : (0 : Int) ≤ (m : Int) := by omega
      have h1k : (m : Int) < (l.length : Int) := by omega
      have he1 : ((markT K).toList == (markT K).toList) = true := by simp
      have EC1 : Hid ((K : Int) + 1 = ((K + 1 : Nat) : Int)) := Lib.hid (by omega)
      have hneg5 : ¬ (((K + 1 + smarkss l[m].body : Nat) : Int) < 0) := by omega
      clear hK hg hpt hpl2 hjm q6
      go_wp2_with fail
      go_region_held3 (fun w' => w'.cell? ⟨b, off + m * 2, none⟩ = some (.string (markT K)))
        (first | exact d0 | exact cell_keep b1 d0 | go_keep)
        (first | (go_at_call 36; refine (laws_markText K _ (by omega) (by omega)).mono ?_; rintro e w1 ⟨rfl, b1⟩) | fail)
      all_goals
        have g1 := cell_keep b1 d1
        have B1 := Lib.hid (below_then (Below.refl wr.heap.size wr).drew b1)
        clear b1 d0 d1
        go_wp2_with fail
        rw [EC1.out]
        refine (laws_heldStmtS l[m].body (K + 1) xA xc _ (RB.out.belowA B1.out) q4 q5 (by omega) (by omega)).mono ?_
        rintro e w3 ⟨rfl, b3⟩
        have B3 := Lib.hid (below_then B1.out b3)
        clear b3 g1
        go_wp2_with fail
        go_roundw
        case rel => exact ⟨m + 1, by omega, by go_num, by rw [HN.out]; exact congrArg (Value.int .i64) (by have := HK.out; omega), below_then HB.out B3.out⟩
        case measure => simp [intOf]; omega
    · go_wp2_with fail
      go_ret
      exact ⟨ret_int (by rw [List.take_of_length_le (by omega)]), HB.out⟩
set_option maxHeartbeats 1600000 in
set_option maxRecDepth 100000 in
theorem laws_heldProg (p : Pg) (x : V3) (k : Nat) (w : World) (hp : PgIs w x (mkPg k p)) (h0 : 0 < k) (h1 : k + markZ p ≤ 10000000) :
    Calls Tryd.prog 9 #[x.val p, .int .i64 (k : Int)] w fun e w' => e = .returned (.int .i64 ((k + markZ p : Nat) : Int)) ∧ Below w.heap.size w w' := by
  obtain ⟨gA, gc, lA, lc, pA, pc⟩ := x
  have IG := Lib.hid hp.gs
  have IL := Lib.hid hp.ls
  have RP := Lib.hid hp.p3
  have c1 := hp.p1
  have c2 := hp.p2
  clear hp
  unfold V3.val
  simp only [mkPg, marksS_length, mkPrs_length] at IG IL RP c1 c2 ⊢
  have hz : p.globals.length + p.locks.length + pmarks p.procs = markZ p := rfl
  have HZ := Lib.hid hz
  have hb : k + (p.globals.length + p.locks.length + pmarks p.procs) ≤ 10000000 := h1
  clear hz h1
  have n1 : ¬ (((k + p.globals.length : Nat) : Int) < 0) := by omega
  have n2 : ¬ (((k + p.globals.length + p.locks.length : Nat) : Int) < 0) := by omega
  have n3 : ¬ (((k + p.globals.length + p.locks.length + pmarks p.procs : Nat) : Int) < 0) := by omega
  go_enter Tryd.func9, Tryd.ntmps9
  go_wp2_with fail
  have B0 : Hid (Below w.heap.size w (w.alloc (.cells #[.slice gA p.globals.length gc, .slice lA p.locks.length lc, .slice pA p.procs.length pc] 25))) := Lib.hid (by repeat' (first | exact Below.refl _ _ | exact Nat.le_refl _ | (refine Below.alloc ?_ ?_ _) | (refine Below.setCell ?_ ?_ _) | (refine Below.drew ?_) | (refine below_drewN ?_ _) | assumption | (simp; done) | (simp; omega)))
  refine (laws_heldStringS _ p.globals.length k _ (IG.out.below B0.out) h0 (by omega) (by omega)).mono ?_
  rintro e w1 ⟨rfl, b1⟩
  have BX1 : Hid (BoxB w1 w.heap.size [.slice gA p.globals.length gc, .slice lA p.locks.length lc, .slice pA p.procs.length pc]) := Lib.hid (BoxB.below (BoxB.lit rfl) b1)
  have p1 := BX1.out 1 _ rfl
  have B1 := Lib.hid (below_then B0.out b1)
  clear b1
  go_wp2_with fail
  refine (laws_heldStringS _ p.locks.length (k + p.globals.length) _ (IL.out.below B1.out) (by omega) (by omega) (by omega)).mono ?_
  rintro e w2 ⟨rfl, b2⟩
  have BX2 := Lib.hid (BX1.out.below b2)
  have p2 := BX2.out 2 _ rfl
  have B2 := Lib.hid (below_then B1.out b2)
  clear b2 p1
  go_wp2_with fail
  refine (laws_heldProcS p.procs pA pc (k + p.globals.length + p.locks.length) _ (RP.out.belowA B2.out) c1 c2 (by omega) (by omega)).mono ?_
  rintro e w3 ⟨rfl, b3⟩
  have B3 := Lib.hid (below_then B2.out b3)
  clear b3 p2
  go_wp2_with fail
  go_ret
  exact ⟨ret_int (by rw [← HZ.out]; omega), B3.out⟩

theorem two_boxes (w : World) (a b c x y : Value) :
    ((w.alloc (.cells #[a, b, c] 25)).alloc (.cells #[x, y] 27)).heap[w.heap.size]? = some (.cells #[a, b, c] 25 (0, 0)) ∧ ((w.alloc (.cells #[a, b, c] 25)).alloc (.cells #[x, y] 27)).heap[w.heap.size + 1]? = some (.cells #[x, y] 27 (0, 0)) ∧ Below w.heap.size w ((w.alloc (.cells #[a, b, c] 25)).alloc (.cells #[x, y] 27)) ∧ ((w.alloc (.cells #[a, b, c] 25)).alloc (.cells #[x, y] 27)).heap.size = w.heap.size + 2 :=
  ⟨(heap_alloc_lt (by simp)).trans (heap_alloc_new _ _), by have := heap_alloc_new (w.alloc (.cells #[a, b, c] 25)) (.cells #[x, y] 27); simpa using this, (by repeat' (first | exact Below.refl _ _ | exact Nat.le_refl _ | (refine Below.alloc ?_ ?_ _) | (refine Below.setCell ?_ ?_ _) | (refine Below.drew ?_) | (refine below_drewN ?_ _) | assumption | (simp; done) | (simp; omega))), by simp⟩
set_option maxHeartbeats 3200000 in
set_option maxRecDepth 100000 in
theorem law_ReadProg (s : ByteArray) (w : World) (hs : s.size ≤ maxLen) (TB0 : TabW w) :
    Calls Tryd.prog 3 #[.string s] w fun e w' => e = .returned (.bool true) ∧ Below w.heap.size w w' := by
  have TB := Lib.hid TB0
  clear TB0
  by_cases h0 : (1048576 : Int) < (s.size : Int)
  · go_enter Tryd.func3, Tryd.ntmps3
    go_wp2_with fail
    go_ret
    exact ⟨rfl, Below.refl _ _⟩
  have hmk := readP_marks s
  obtain ⟨R, hR⟩ : ∃ R, readP s = R := ⟨_, rfl⟩
  obtain ⟨p, f1, f2⟩ := R
  have HR := Lib.hid hR
  rw [hR] at hmk
  simp only at hmk
  clear hR
  go_enter Tryd.func3, Tryd.ntmps3
  go_wp2_with fail
  have c1 := spec_ReadProg s w
  refine c1.mono ?_
  clear c1
  rw [HR.out]
  rintro e w1 ⟨⟨gA1, gc1, lA1, lc1, pA1, pc1⟩, rfl, t1, b1⟩
  simp only at t1
  have hxv : (V3.mk gA1 gc1 lA1 lc1 pA1 pc1).val p = .agg #[.slice gA1 p.globals.length gc1, .slice lA1 p.locks.length lc1, .slice pA1 p.procs.length pc1] := rfl
  rw [hxv]
  clear hxv
  obtain ⟨y1, z1, q1, s1⟩ := two_boxes w1 (.slice gA1 p.globals.length gc1) (.slice lA1 p.locks.length lc1) (.slice pA1 p.procs.length pc1) (.int .i64 f1) (.int .i64 f2)
  have Y1 := Lib.hid y1
  have Z1 := Lib.hid z1
  have BX1 := Lib.hid (below_then b1 q1)
  have T1 := Lib.hid (t1.belowO (fun b hb => hb.2) q1)
  have hz1 := b1.size
  clear b1 t1 y1 z1 q1
  go_wp2_with fail
  obtain ⟨WA, hw1⟩ : ∃ W, ((w1.alloc (.cells #[.slice gA1 p.globals.length gc1, .slice lA1 p.locks.length lc1, .slice pA1 p.procs.length pc1] 25)).alloc (.cells #[.int .i64 f1, .int .i64 f2] 27)) = W := ⟨_, rfl⟩
  rw [hw1] at Y1 Z1 BX1 T1 s1 ⊢
  clear hw1
  obtain ⟨g1, hg1⟩ : ∃ g, w1.heap.size = g := ⟨_, rfl⟩
  obtain ⟨h1, hh1⟩ : ∃ h, w1.heap.size + 1 = h := ⟨_, rfl⟩
  rw [hg1] at Y1
  rw [hh1] at Z1
  (try rw [hh1])
  (try rw [hg1])
  have BA := BX1
  clear BX1
  have c2 := impl_ReadProg s WA (TB.out.below BA.out)
  refine c2.mono ?_
  clear c2
  rw [HR.out]
  rintro e w2 ⟨⟨gA2, gc2, lA2, lc2, pA2, pc2⟩, rfl, t2, b2⟩
  simp only at t2
  have hxv : (V3.mk gA2 gc2 lA2 lc2 pA2 pc2).val p = .agg #[.slice gA2 p.globals.length gc2, .slice lA2 p.locks.length lc2, .slice pA2 p.procs.length pc2] := rfl
  rw [hxv]
  clear hxv
  obtain ⟨y2, z2, q2, s2⟩ := two_boxes w2 (.slice gA2 p.globals.length gc2) (.slice lA2 p.locks.length lc2) (.slice pA2 p.procs.length pc2) (.int .i64 f1) (.int .i64 f2)
  have Y2 := Lib.hid y2
  have Z2 := Lib.hid z2
  have BX2 := Lib.hid (below_then b2 q2)
  have T2 := Lib.hid (t2.belowO (fun b hb => hb.2) q2)
  have hz2 := b2.size
  clear b2 t2 y2 z2 q2
  go_upto_region 5 with fail
  obtain ⟨WB, hw2⟩ : ∃ W, ((w2.alloc (.cells #[.slice gA2 p.globals.length gc2, .slice lA2 p.locks.length lc2, .slice pA2 p.procs.length pc2] 25)).alloc (.cells #[.int .i64 f1, .int .i64 f2] 27)) = W := ⟨_, rfl⟩
  rw [hw2] at Y2 Z2 BX2 T2 s2 ⊢
  clear hw2
  obtain ⟨g2, hg2⟩ : ∃ g, w2.heap.size = g := ⟨_, rfl⟩
  obtain ⟨h2, hh2⟩ : ∃ h, w2.heap.size + 1 = h := ⟨_, rfl⟩
  rw [hg2] at Y2
  rw [hh2] at Z2
  (try rw [hh2])
  (try rw [hg2])
  have BB := BX2
  have T1A := T1
  have Y1A := Y1
  have Z1A := Z1
  clear BX2
  have T22 : Hid (PgO WB (fun b => WA.heap.size ≤ b ∧ b < g2) ⟨gA2, gc2, lA2, lc2, pA2, pc2⟩ p) := Lib.hid (T2.out.sub fun b hb => ⟨hb.1, by have := hb.2; omega⟩)
  clear T2
  replace Y1 := Lib.hid ((BB.out.block g1 (lt_of_block Y1.out)).trans Y1.out)
  replace Z1 := Lib.hid ((BB.out.block h1 (lt_of_block Z1.out)).trans Z1.out)
  have P1 : Hid (PgIs WB ⟨gA1, gc1, lA1, lc1, pA1, pc1⟩ p) := Lib.hid (T1.out.any.belowA BB.out)
  clear T1
  obtain ⟨u20, u21, u22, _, _, _⟩ := box3 Y2.out
  obtain ⟨v20, v21, _, _⟩ := prc2R Z2.out
  have hy2 := lt_of_block Y2.out
  have hv2 := lt_of_block Z2.out
  obtain ⟨u10, u11, u12, _, _, _⟩ := box3 Y1.out
  obtain ⟨v10, v11, _, _⟩ := prc2R Z1.out
  have hy1 := lt_of_block Y1.out
  have hv1 := lt_of_block Z1.out
  go_wp2_with fail
  have ce := laws_eqProg p p ⟨gA2, gc2, lA2, lc2, pA2, pc2⟩ ⟨gA1, gc1, lA1, lc1, pA1, pc1⟩ _ T22.out.any P1.out
  refine ce.mono ?_
  clear ce
  rintro e w3 ⟨rfl, b3⟩
  have B3 := Lib.hid b3
  clear u20 u21 u22 v20 v21 hy2 hv2 u10 u11 u12 v10 v11 hy1 hv1
  clear b3
  replace Y2 := Lib.hid ((B3.out.block g2 (lt_of_block Y2.out)).trans Y2.out)
  replace Z2 := Lib.hid ((B3.out.block h2 (lt_of_block Z2.out)).trans Z2.out)
  replace Y1 := Lib.hid ((B3.out.block g1 (lt_of_block Y1.out)).trans Y1.out)
  replace Z1 := Lib.hid ((B3.out.block h1 (lt_of_block Z1.out)).trans Z1.out)
  obtain ⟨u20, u21, u22, _, _, _⟩ := box3 Y2.out
  obtain ⟨v20, v21, _, _⟩ := prc2R Z2.out
  have hy2 := lt_of_block Y2.out
  have hv2 := lt_of_block Z2.out
  obtain ⟨u10, u11, u12, _, _, _⟩ := box3 Y1.out
  obtain ⟨v10, v11, _, _⟩ := prc2R Z1.out
  have hy1 := lt_of_block Y1.out
  have hv1 := lt_of_block Z1.out
  rw [decB_yes (rfl : p = p)]
  go_wp2_with fail
  refine (laws_eqFault f1 f2 _).mono ?_
  rintro e w4 ⟨rfl, b4⟩
  have B5 := Lib.hid b4
  have B4 := Lib.hid (below_then B3.out b4)
  clear u20 u21 u22 v20 v21 hy2 hv2 u10 u11 u12 v10 v11 hy1 hv1
  clear b4
  replace Y2 := Lib.hid ((B5.out.block g2 (lt_of_block Y2.out)).trans Y2.out)
  replace Z2 := Lib.hid ((B5.out.block h2 (lt_of_block Z2.out)).trans Z2.out)
  replace Y1 := Lib.hid ((B5.out.block g1 (lt_of_block Y1.out)).trans Y1.out)
  replace Z1 := Lib.hid ((B5.out.block h1 (lt_of_block Z1.out)).trans Z1.out)
  clear B3 B5
  have T4 := Lib.hid (T22.out.belowO (fun b hb => by have := hb.2; omega) B4.out)
  replace P1 := Lib.hid (P1.out.belowA B4.out)
  have hs4 := B4.out.size
  clear T22
  obtain ⟨u20, u21, u22, _, _, _⟩ := box3 Y2.out
  obtain ⟨v20, v21, _, _⟩ := prc2R Z2.out
  have hy2 := lt_of_block Y2.out
  have hv2 := lt_of_block Z2.out
  go_wp2_with fail
  refine (laws_markProgH p ⟨gA2, gc2, lA2, lc2, pA2, pc2⟩ 1 _ _ T4.out (fun b hb => by have := hb.2; omega) (by omega) (by omega)).mono ?_
  rintro e w5 ⟨rfl, row5, kp5⟩
  have R5 := Lib.hid row5
  have KP := Lib.hid kp5
  clear u20 u21 u22 v20 v21 hy2 hv2
  clear row5 kp5
  replace Y2 := Lib.hid ((KP.out.block g2 (lt_of_block Y2.out) (fun h => by have := h.2; omega)).trans Y2.out)
  replace Z2 := Lib.hid ((KP.out.block h2 (lt_of_block Z2.out) (fun h => by have := h.2; omega)).trans Z2.out)
  obtain ⟨u20, u21, u22, _, _, _⟩ := box3 Y2.out
  obtain ⟨v20, v21, _, _⟩ := prc2R Z2.out
  have hy2 := lt_of_block Y2.out
  have hv2 := lt_of_block Z2.out
  go_wp2_with fail
  refine (laws_heldProg p ⟨gA2, gc2, lA2, lc2, pA2, pc2⟩ 1 _ R5.out.any (by omega) (by omega)).mono ?_
  rintro e w6 ⟨rfl, b6⟩
  have B6 := Lib.hid b6
  clear u20 u21 u22 v20 v21 hy2 hv2
  clear b6
  replace Y2 := Lib.hid ((B6.out.block g2 (lt_of_block Y2.out)).trans Y2.out)
  replace Z2 := Lib.hid ((B6.out.block h2 (lt_of_block Z2.out)).trans Z2.out)
  have hneg : ¬ (((1 + markZ p : Nat) : Int) < 0) := by omega
  have hsame : (((1 + markZ p : Nat) : Int) != ((1 + markZ p : Nat) : Int)) = false := by simp
  have BW6 : Hid (Below WA.heap.size WA w6) := Lib.hid (((below_then BB.out B4.out).trans (KP.out.below (n := WA.heap.size) (by have := BB.out.size; omega) (fun b hb h => by have := h.1; omega))).trans (B6.out.mono (by have := BB.out.size; have := KP.out.size; omega)))
  have BV6 := Lib.hid (below_then BA.out BW6.out)
  have R6 : Hid (PgIs w6 ⟨gA2, gc2, lA2, lc2, pA2, pc2⟩ (mkPg 1 p)) := Lib.hid (R5.out.any.belowA B6.out)
  have hk5 := KP.out.size
  have hk6 := B6.out.size
  have P6 : Hid (PgIs w6 ⟨gA1, gc1, lA1, lc1, pA1, pc1⟩ p ∧ w6.heap[g1]? = some (.cells #[.slice gA1 p.globals.length gc1, .slice lA1 p.locks.length lc1, .slice pA1 p.procs.length pc1] 25 (0, 0)) ∧ w6.heap[h1]? = some (.cells #[.int .i64 f1, .int .i64 f2] 27 (0, 0))) := Lib.hid ⟨T1A.out.any.belowA BW6.out, (BW6.out.block g1 (lt_of_block Y1A.out)).trans Y1A.out, (BW6.out.block h1 (lt_of_block Z1A.out)).trans Z1A.out⟩
  clear R5 KP B6 P1 T4
  replace P1 := Lib.hid P6.out.1
  replace Y1 := Lib.hid P6.out.2.1
  replace Z1 := Lib.hid P6.out.2.2
  go_wp2_with fail
  have c7 := impl_ReadProg s w6 (TB.out.below BV6.out)
  refine c7.mono ?_
  clear c7
  rw [HR.out]
  rintro e w7 ⟨⟨gA7, gc7, lA7, lc7, pA7, pc7⟩, rfl, t7, b7⟩
  simp only at t7
  have hxv : (V3.mk gA7 gc7 lA7 lc7 pA7 pc7).val p = .agg #[.slice gA7 p.globals.length gc7, .slice lA7 p.locks.length lc7, .slice pA7 p.procs.length pc7] := rfl
  rw [hxv]
  clear hxv
  obtain ⟨y7, z7, q7, s7⟩ := two_boxes w7 (.slice gA7 p.globals.length gc7) (.slice lA7 p.locks.length lc7) (.slice pA7 p.procs.length pc7) (.int .i64 f1) (.int .i64 f2)
  have Y7 := Lib.hid y7
  have Z7 := Lib.hid z7
  have BX7 := Lib.hid (below_then b7 q7)
  have T7 := Lib.hid (t7.belowO (fun b hb => hb.2) q7)
  have hz7 := b7.size
  clear b7 t7 y7 z7 q7
  go_upto_region 16 with fail
  obtain ⟨WC, hw7⟩ : ∃ W, ((w7.alloc (.cells #[.slice gA7 p.globals.length gc7, .slice lA7 p.locks.length lc7, .slice pA7 p.procs.length pc7] 25)).alloc (.cells #[.int .i64 f1, .int .i64 f2] 27)) = W := ⟨_, rfl⟩
  rw [hw7] at Y7 Z7 BX7 T7 s7 ⊢
  clear hw7
  obtain ⟨g7, hg7⟩ : ∃ g, w7.heap.size = g := ⟨_, rfl⟩
  obtain ⟨h7, hh7⟩ : ∃ h, w7.heap.size + 1 = h := ⟨_, rfl⟩
  rw [hg7] at Y7
  rw [hh7] at Z7
  (try rw [hh7])
  (try rw [hg7])
  have BC := BX7
  clear BX7
  replace P1 := Lib.hid (P1.out.belowA BC.out)
  have R8 := Lib.hid (R6.out.belowA BC.out)
  have BV8 := Lib.hid (below_then BV6.out BC.out)
  replace Y1 := Lib.hid ((BC.out.block g1 (lt_of_block Y1.out)).trans Y1.out)
  replace Z1 := Lib.hid ((BC.out.block h1 (lt_of_block Z1.out)).trans Z1.out)
  replace Y2 := Lib.hid ((BC.out.block g2 (lt_of_block Y2.out)).trans Y2.out)
  replace Z2 := Lib.hid ((BC.out.block h2 (lt_of_block Z2.out)).trans Z2.out)
  clear R6 BV6 BW6 P6
  obtain ⟨u70, u71, u72, _, _, _⟩ := box3 Y7.out
  obtain ⟨v70, v71, _, _⟩ := prc2R Z7.out
  have hy7 := lt_of_block Y7.out
  have hv7 := lt_of_block Z7.out
  obtain ⟨u10, u11, u12, _, _, _⟩ := box3 Y1.out
  obtain ⟨v10, v11, _, _⟩ := prc2R Z1.out
  have hy1 := lt_of_block Y1.out
  have hv1 := lt_of_block Z1.out
  go_wp2_with fail
  have ce := laws_eqProg p p ⟨gA7, gc7, lA7, lc7, pA7, pc7⟩ ⟨gA1, gc1, lA1, lc1, pA1, pc1⟩ _ T7.out.any P1.out
  refine ce.mono ?_
  clear ce
  rintro e w9 ⟨rfl, b3⟩
  have B3 := Lib.hid b3
  clear u70 u71 u72 v70 v71 hy7 hv7 u10 u11 u12 v10 v11 hy1 hv1
  clear b3
  replace Y7 := Lib.hid ((B3.out.block g7 (lt_of_block Y7.out)).trans Y7.out)
  replace Z7 := Lib.hid ((B3.out.block h7 (lt_of_block Z7.out)).trans Z7.out)
  replace Y1 := Lib.hid ((B3.out.block g1 (lt_of_block Y1.out)).trans Y1.out)
  replace Z1 := Lib.hid ((B3.out.block h1 (lt_of_block Z1.out)).trans Z1.out)
  obtain ⟨u70, u71, u72, _, _, _⟩ := box3 Y7.out
  obtain ⟨v70, v71, _, _⟩ := prc2R Z7.out
  have hy7 := lt_of_block Y7.out
  have hv7 := lt_of_block Z7.out
  obtain ⟨u10, u11, u12, _, _, _⟩ := box3 Y1.out
  obtain ⟨v10, v11, _, _⟩ := prc2R Z1.out
  have hy1 := lt_of_block Y1.out
  have hv1 := lt_of_block Z1.out
  rw [decB_yes (rfl : p = p)]
  go_wp2_with fail
  refine (laws_eqFault f1 f2 _).mono ?_
  rintro e w10 ⟨rfl, b4⟩
  have B5 := Lib.hid b4
  have B4 := Lib.hid (below_then B3.out b4)
  clear u70 u71 u72 v70 v71 hy7 hv7 u10 u11 u12 v10 v11 hy1 hv1
  clear b4
  replace Y7 := Lib.hid ((B5.out.block g7 (lt_of_block Y7.out)).trans Y7.out)
  replace Z7 := Lib.hid ((B5.out.block h7 (lt_of_block Z7.out)).trans Z7.out)
  replace Y1 := Lib.hid ((B5.out.block g1 (lt_of_block Y1.out)).trans Y1.out)
  replace Z1 := Lib.hid ((B5.out.block h1 (lt_of_block Z1.out)).trans Z1.out)
  clear B3 B5
  replace Y2 := Lib.hid ((B4.out.block g2 (lt_of_block Y2.out)).trans Y2.out)
  replace Z2 := Lib.hid ((B4.out.block h2 (lt_of_block Z2.out)).trans Z2.out)
  have R10 := Lib.hid (R8.out.belowA B4.out)
  obtain ⟨u20, u21, u22, _, _, _⟩ := box3 Y2.out
  obtain ⟨v20, v21, _, _⟩ := prc2R Z2.out
  have hy2 := lt_of_block Y2.out
  have hv2 := lt_of_block Z2.out
  go_wp2_with fail
  refine (laws_heldProg p ⟨gA2, gc2, lA2, lc2, pA2, pc2⟩ 1 _ R10.out (by omega) (by omega)).mono ?_
  rintro e w11 ⟨rfl, b11⟩
  have B11 := Lib.hid (below_then BV8.out (below_then B4.out b11))
  clear u20 u21 u22 v20 v21 hy2 hv2
  clear b11
  go_wp2_with fail
  go_ret
  exact ⟨rfl, B11.out⟩
end Go.Proofs.YtdanlgmpgdipnaaDoor
